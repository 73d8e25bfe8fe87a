/-
  Chapter 44: equal texts, equal conditions. No condition.
-/
import Derived.Test.YtcddalfeicoedaaGreatDoorW44G23x5
set_option linter.unusedVariables false
set_option linter.unusedSimpArgs false
set_option linter.unusedSectionVars false
namespace Go.Proofs.S44.L
open Go Go.Ev Go.Proofs Go.Proofs.S44
open Go.Proofs.S44.H (strsAV strsAV_length strsAV_get Sml GlK GlR zints Few64 nsI nsI_length nsI_get zint zint_len encB encB_len bytesAV_append dig inp)
variable {gl :Gl} {n:Nat}
def L23 :MC:=match m23 with| .seq _ (.seq _ (.seq (.seq _ (.block _ (.loop _ b))) _))=>b|_=>.skip
def S23 (f g:Bool)(a b:List (List UInt8))(i:Nat):St:=⟨[.set 5 (i64 i),.set 1 (.lst g .sc (strsAV b)),.set 0 (.lst f .sc (strsAV a))],[]⟩
theorem texts_at (h:1<=n)(f g:Bool){a b:List (List UInt8)}(ha:a.length<=60000)(hb:b.length<=60000):call gl tab n 23 [.lst f .sc (strsAV a),.lst g .sc (strsAV b)] []=some (.bool (decide (a=b)),[],[]):=by
 obtain⟨d,rfl⟩:=Nat.exists_eq_add_of_le' h
 have la:=strsAV_length a
 have lb:=strsAV_length b
 rw[call_go (fd:=fd23) rfl]
 by_cases hl:a.length=b.length
 case neg =>
  rw[decide_eq_false fun e=>hl (by rw[e])]
  simp(disch:=((fail_if_success (intro _));omega)) only[go_sem,simprocAttr,↓reduceIte,↓Nat.reduceEqDiff,xx,fd23,m23,la,lb]
 have hs:∀i,i<a.length->sat a i=sat b i->contK [.slot 0,.slot 1,.slot 5] (evC gl (call gl tab d) L23 (S23 f g a b i))=some (S23 f g a b (i+1)):=fun i hi hp=>by
  have hx:=strs_at hi
  have hy:=strs_at (l:=b) (i:=i) (by omega)
  rw[hp]at hx
  simp(disch:=((fail_if_success (intro _));omega)) only[go_sem,simprocAttr,↓reduceIte,↓Nat.reduceEqDiff,xx,L23,m23,S23,la,lb,hx,hy,bne_self_eq_false]
 have hf:∀i,i<a.length->¬sat a i=sat b i->out1 4 (evC gl (call gl tab d) L23 (S23 f g a b i))=some (.ret,.bool false):=fun i hi hp=>by
  have hx:=strs_at hi
  have hy:=strs_at (l:=b) (i:=i) (by omega)
  have he:(sat a i==sat b i)=false:=by rw[beq_eq_false_iff_ne];exact hp
  generalize sat a i=u at *
  generalize sat b i=v at *
  simp(disch:=((fail_if_success (intro _));omega)) only[go_sem,simprocAttr,↓reduceIte,↓Nat.reduceEqDiff,xx,L23,m23,S23,la,lb,hx,hy,he]
 rcases first_fail (fun i=>sat a i=sat b i) a.length with hA|⟨q,hq,hb',he⟩
 . have e:a=b:=List.ext_getElem hl fun i h1 h2=>by
    have:=hA i h1
    simpa[sat,h1,h2]using this
   rw[decide_eq_true e]
   have hs2:=fun i hi=>hs i hi (hA i hi)
   simp only[L23,m23]at hs2
   simp(disch:=((fail_if_success (intro _));omega)) only[go_sem,simprocAttr,↓reduceIte,↓Nat.reduceEqDiff,xx,fd23,m23,la,lb,hl,bne_self_eq_false]
   rw[iter_to (S23 f g a b) a.length (by unfold LF;omega)]
   . simp(disch:=((fail_if_success (intro _));omega)) only[go_sem,simprocAttr,↓reduceIte,↓Nat.reduceEqDiff,xx,S23,la]
   . simp(disch:=((fail_if_success (intro _));omega)) only[go_sem,simprocAttr,↓reduceIte,↓Nat.reduceEqDiff,xx,S23]
   . exact hs2
   . simp(disch:=((fail_if_success (intro _));omega)) only[go_sem,simprocAttr,↓reduceIte,↓Nat.reduceEqDiff,xx,S23,la]
 . have e:¬a=b:=fun e=>he (by rw[e])
   rw[decide_eq_false e]
   obtain⟨st,hst,hg⟩:=out1_get (hf q hq he)
   have hs2:=fun i (hi:i<q)=>hs i (by omega) (hb' i hi)
   simp only[L23,m23]at hs2 hst
   simp(disch:=((fail_if_success (intro _));omega)) only[go_sem,simprocAttr,↓reduceIte,↓Nat.reduceEqDiff,xx,fd23,m23,la,lb,hl,bne_self_eq_false]
   rw[iter_to (S23 f g a b) q (by unfold LF;omega),hst]
   . simp(disch:=((fail_if_success (intro _));omega)) only[go_sem,simprocAttr,↓reduceIte,↓Nat.reduceEqDiff,xx,hg]
   . simp(disch:=((fail_if_success (intro _));omega)) only[go_sem,simprocAttr,↓reduceIte,↓Nat.reduceEqDiff,xx,S23]
   . exact hs2
   . rw[hst];rfl
def L89 :MC:=match m89 with| .seq _ (.seq _ (.seq (.seq _ (.block _ (.loop _ b))) _))=>b|_=>.skip
def S89 (f g:Bool)(a:List Int)(i:Nat):St:=⟨[.set 5 (i64 i),.set 1 (.lst g .sc (nsI a)),.set 0 (.lst f .sc (nsI a))],[]⟩
theorem sameI_at (h:1<=n)(f g:Bool){a:List Int}(ha:a.length<=60000):call gl tab n 89 [.lst f .sc (nsI a),.lst g .sc (nsI a)] []=some (.bool true,[],[]):=by
 obtain⟨d,rfl⟩:=Nat.exists_eq_add_of_le' h
 have la:=nsI_length a
 have hs:∀i,i<a.length->contK [.slot 0,.slot 1,.slot 5] (evC gl (call gl tab d) L89 (S89 f g a i))=some (S89 f g a (i+1)):=fun i hi=>by
  have hx:=nsI_get hi
  generalize a[i]=u at *
  simp(disch:=((fail_if_success (intro _));omega)) only[go_sem,simprocAttr,↓reduceIte,↓Nat.reduceEqDiff,xx,L89,m89,S89,la,hx,bne_self_eq_false]
 simp only[L89,m89]at hs
 rw[call_go (fd:=fd89) rfl]
 simp(disch:=((fail_if_success (intro _));omega)) only[go_sem,simprocAttr,↓reduceIte,↓Nat.reduceEqDiff,xx,fd89,m89,la,bne_self_eq_false]
 rw[iter_to (S89 f g a) a.length (by unfold LF;omega)]
 . simp(disch:=((fail_if_success (intro _));omega)) only[go_sem,simprocAttr,↓reduceIte,↓Nat.reduceEqDiff,xx,S89,la]
 . simp(disch:=((fail_if_success (intro _));omega)) only[go_sem,simprocAttr,↓reduceIte,↓Nat.reduceEqDiff,xx,S89]
 . exact hs
 . simp(disch:=((fail_if_success (intro _));omega)) only[go_sem,simprocAttr,↓reduceIte,↓Nat.reduceEqDiff,xx,S89,la]
theorem sameC_at (h:2<=n){x:Cd}(hx:CdOk x):call gl tab n 31 [cdAV x,cdAV x] []=some (.bool true,[],[]):=by
 obtain⟨d,rfl⟩:=Nat.exists_eq_add_of_le' h
 have c1:=@texts_at gl (d+1) (by omega) false false x.cl x.cl (by have:=hx.cl.1;omega) (by have:=hx.cl.1;omega)
 have c2:=@texts_at gl (d+1) (by omega) false false x.co x.co (by have:=hx.co.1;omega) (by have:=hx.co.1;omega)
 have c3:=@sameI_at gl (d+1) (by omega) false false x.si (by have:=hx.si.1;omega)
 rw[decide_eq_true rfl]at c1 c2
 rw[call_go (fd:=fd31) rfl]
 simp(disch:=((fail_if_success (intro _));omega)) only[go_sem,simprocAttr,↓reduceIte,↓Nat.reduceEqDiff,xx,fd31,m31,c1,c2,c3,beq_self_eq_true]
end Go.Proofs.S44.L
namespace Go.Proofs.S44.L
open Go Go.Ev Go.Proofs Go.Proofs.S44
open Go.Proofs.S44.H (strsAV strsAV_length strsAV_get Sml GlK GlR zints Few64 nsI nsI_length nsI_get)
abbrev kI :Kd:=.int .i64
abbrev kB :Kd:=.ar 16 (.int .u8)
abbrev kCd :Kd:=.st [kI,kI,.str,.sl .str,.sl .str,.sl kI,kI]
abbrev kTk :Kd:=.st [kI,kI,.str,.sl kCd,kB]
abbrev kVy :Kd:=.st [.str,.sl .str,.str]
abbrev kRl :Kd:=.st [.str,.str,.sl .str,kI,kI,kI,kI,.sl kVy,kCd,.bool,kI,.str]
abbrev kHr :Kd:=.st [.str,.str]
abbrev kSp :Kd:=.st [.str,.str,kI,kI,kB,.str,.st [kI,kI],kI,kI,kB]
abbrev kLe :Kd:=.st [kI,kI,kI,kI,kB]
abbrev kRe :Kd:=.st [kI,kI,.st [.str,.str,.str,kI,.st [kI,kI]],.sl kHr,kTk,kB,kRl,kI,kSp,kI,.st [kI,kI],kB,kLe,kI,kI]
theorem ml_le {n:Nat}(h:n<=Go.maxLen):n<=ML:=by simpa[Go.maxLen]using h
theorem kd_i {a:AV}(h:HasKd kI a):∃n,a=i64 n/\R64 n:=by
 obtain⟨n,rfl,h1,h2⟩:=h
 exact⟨n,rfl,h1,h2⟩
theorem kd_str {a:AV}(h:HasKd .str a):∃l,a= .str l/\l.length<=ML:=by
 obtain⟨l,rfl,h1⟩:=h
 exact⟨l,rfl,ml_le h1⟩
theorem byte_of {a:AV}(h:HasKd (.int .u8) a):∃b:UInt8,a= .int .u8 b.toNat:=by
 obtain⟨n,rfl,h1,h2⟩:=h
 have h3:0<=n:=h1
 have h4:n<=255:=h2
 refine⟨UInt8.ofNat n.toNat,?_⟩
 congr 1
 rw[UInt8.toNat_ofNat']
 omega
theorem bytes_of :∀{l:List AV},(∀x∈l,HasKd (.int .u8) x)->∃b:List UInt8,l=bytesAV b
 | [],_=>⟨[],rfl⟩
 | x::l,h=>by
   obtain⟨a,rfl⟩:=byte_of (h x (by simp))
   obtain⟨r,rfl⟩:=bytes_of (l:=l) fun y hy=>h y (by simp[hy])
   exact⟨a::r,rfl⟩
theorem kd_B {a:AV}(h:HasKd kB a):∃b,a=bAV b/\b.length=16:=by
 obtain⟨l,rfl,hl,h⟩:=h
 obtain⟨b,rfl⟩:=bytes_of h
 exact⟨b,rfl,by rw[bytesAV_length]at hl;exact hl⟩
theorem strs_of :∀{l:List AV},(∀x∈l,HasKd .str x)->∃r:List (List UInt8),l=strsAV r/\∀y∈r,y.length<=ML
 | [],_=>⟨[],rfl,fun y h=>by simp at h⟩
 | x::l,h=>by
   obtain⟨a,rfl,ha⟩:=kd_str (h x (by simp))
   obtain⟨r,rfl,hr⟩:=strs_of (l:=l) fun y hy=>h y (by simp[hy])
   exact⟨a::r,rfl,fun y hy=>by
    simp at hy
    rcases hy with rfl|hy
    . exact ha
    . exact hr y hy⟩
theorem kd_strs {a:AV}(h:HasKd (.sl .str) a):∃r,a= .lst false .sc (strsAV r)/\r.length<=ML/\∀y∈r,y.length<=ML:=by
 obtain⟨l,rfl,h1,h2⟩:=h
 obtain⟨r,rfl,hr⟩:=strs_of h2
 exact⟨r,rfl,by rw[strsAV_length]at h1;exact ml_le h1,hr⟩
theorem ints_of :∀{l:List AV},(∀x∈l,HasKd kI x)->∃r:List Int,l=nsI r/\∀y∈r,R64 y
 | [],_=>⟨[],rfl,fun y h=>by simp at h⟩
 | x::l,h=>by
   obtain⟨a,rfl,ha⟩:=kd_i (h x (by simp))
   obtain⟨r,rfl,hr⟩:=ints_of (l:=l) fun y hy=>h y (by simp[hy])
   exact⟨a::r,rfl,fun y hy=>by
    simp at hy
    rcases hy with rfl|hy
    . exact ha
    . exact hr y hy⟩
theorem kd_ints {a:AV}(h:HasKd (.sl kI) a):∃r,a= .lst false .sc (nsI r)/\r.length<=ML/\∀y∈r,R64 y:=by
 obtain⟨l,rfl,h1,h2⟩:=h
 obtain⟨r,rfl,hr⟩:=ints_of h2
 exact⟨r,rfl,by rw[nsI_length]at h1;exact ml_le h1,hr⟩
theorem kd_cd {a:AV}(h:HasKd kCd a):∃x,a=cdAV x/\CdR x:=by
 obtain⟨_,rfl,h⟩:=h
 simp only[HasKds]at h
 obtain⟨_,_,rfl,h1,_,_,rfl,h2,_,_,rfl,h3,_,_,rfl,h4,_,_,rfl,h5,_,_,rfl,h6,_,_,rfl,h7,rfl⟩:=h
 obtain⟨a1,rfl,b1⟩:=kd_i h1
 obtain⟨a2,rfl,b2⟩:=kd_i h2
 obtain⟨a3,rfl,b3⟩:=kd_str h3
 obtain⟨a4,rfl,b4,c4⟩:=kd_strs h4
 obtain⟨a5,rfl,b5,c5⟩:=kd_strs h5
 obtain⟨a6,rfl,b6,c6⟩:=kd_ints h6
 obtain⟨a7,rfl,b7⟩:=kd_i h7
 exact⟨⟨a1,a2,a3,a4,a5,a6,a7⟩,rfl,⟨b1,b2,b7,b3,b4,c4,b5,c5,b6,c6⟩⟩
theorem cds_of :∀{l:List AV},(∀x∈l,HasKd kCd x)->∃r:List Cd,l=cds r/\∀y∈r,CdR y
 | [],_=>⟨[],rfl,fun y h=>by simp at h⟩
 | x::l,h=>by
   obtain⟨a,rfl,ha⟩:=kd_cd (h x (by simp))
   obtain⟨r,rfl,hr⟩:=cds_of (l:=l) fun y hy=>h y (by simp[hy])
   exact⟨a::r,rfl,fun y hy=>by
    simp at hy
    rcases hy with rfl|hy
    . exact ha
    . exact hr y hy⟩
theorem kd_vy {a:AV}(h:HasKd kVy a):∃x,a=vyAV x/\VyR x:=by
 obtain⟨_,rfl,h⟩:=h
 simp only[HasKds]at h
 obtain⟨_,_,rfl,h1,_,_,rfl,h2,_,_,rfl,h3,rfl⟩:=h
 obtain⟨a1,rfl,b1⟩:=kd_str h1
 obtain⟨a2,rfl,b2,c2⟩:=kd_strs h2
 obtain⟨a3,rfl,b3⟩:=kd_str h3
 exact⟨⟨a1,a2,a3⟩,rfl,⟨b1,b2,c2,b3⟩⟩
theorem vys_of :∀{l:List AV},(∀x∈l,HasKd kVy x)->∃r:List Vy,l=vys r/\∀y∈r,VyR y
 | [],_=>⟨[],rfl,fun y h=>by simp at h⟩
 | x::l,h=>by
   obtain⟨a,rfl,ha⟩:=kd_vy (h x (by simp))
   obtain⟨r,rfl,hr⟩:=vys_of (l:=l) fun y hy=>h y (by simp[hy])
   exact⟨a::r,rfl,fun y hy=>by
    simp at hy
    rcases hy with rfl|hy
    . exact ha
    . exact hr y hy⟩
theorem hrs_of :∀{l:List AV},(∀x∈l,HasKd kHr x)->∃r:List Hr,l=hrs r/\∀y∈r,y.n.length<=ML/\y.v.length<=ML
 | [],_=>⟨[],rfl,fun y h=>by simp at h⟩
 | x::l,h=>by
   obtain⟨_,rfl,h0⟩:=h x (by simp)
   simp only[HasKds]at h0
   obtain⟨_,_,rfl,h1,_,_,rfl,h2,rfl⟩:=h0
   obtain⟨a1,rfl,b1⟩:=kd_str h1
   obtain⟨a2,rfl,b2⟩:=kd_str h2
   obtain⟨r,rfl,hr⟩:=hrs_of (l:=l) fun y hy=>h y (by simp[hy])
   exact⟨⟨a1,a2⟩::r,rfl,fun y hy=>by
    simp at hy
    rcases hy with rfl|hy
    . exact⟨b1,b2⟩
    . exact hr y hy⟩
theorem kd_tk {a:AV}(h:HasKd kTk a):∃x,a=tkAV x/\((R64 x.cu/\R64 x.se)/\x.id.length<=ML/\x.cs.length<=ML/\x.sgn.length=16)/\∀y∈x.cs,CdR y:=by
 obtain⟨_,rfl,h⟩:=h
 simp only[HasKds]at h
 obtain⟨_,_,rfl,h1,_,_,rfl,h2,_,_,rfl,h3,_,_,rfl,h4,_,_,rfl,h5,rfl⟩:=h
 obtain⟨a1,rfl,b1⟩:=kd_i h1
 obtain⟨a2,rfl,b2⟩:=kd_i h2
 obtain⟨a3,rfl,b3⟩:=kd_str h3
 obtain⟨l,rfl,h6,h7⟩:=h4
 obtain⟨r,rfl,hr⟩:=cds_of h7
 obtain⟨a5,rfl,b5⟩:=kd_B h5
 exact⟨⟨a1,a2,a3,r,a5⟩,rfl,⟨⟨b1,b2⟩,b3,by rw[cds_length]at h6;exact ml_le h6,b5⟩,hr⟩
theorem kd_sp {a:AV}(h:HasKd kSp a):∃x,a=spAV x/\SpOk x/\SpB x:=by
 obtain⟨_,rfl,h⟩:=h
 simp only[HasKds]at h
 obtain⟨_,_,rfl,h1,_,_,rfl,h2,_,_,rfl,h3,_,_,rfl,h4,_,_,rfl,h5,_,_,rfl,h6,_,_,rfl,h7,_,_,rfl,h8,_,_,rfl,h9,_,_,rfl,h10,rfl⟩:=h
 obtain⟨a1,rfl,b1⟩:=kd_str h1
 obtain⟨a2,rfl,b2⟩:=kd_str h2
 obtain⟨a3,rfl,b3⟩:=kd_i h3
 obtain⟨a4,rfl,b4⟩:=kd_i h4
 obtain⟨a5,rfl,b5⟩:=kd_B h5
 obtain⟨a6,rfl,b6⟩:=kd_str h6
 obtain⟨_,rfl,h7⟩:=h7
 simp only[HasKds]at h7
 obtain⟨_,_,rfl,h71,_,_,rfl,h72,rfl⟩:=h7
 obtain⟨a7,rfl,b7⟩:=kd_i h71
 obtain⟨a7',rfl,b7'⟩:=kd_i h72
 obtain⟨a8,rfl,b8⟩:=kd_i h8
 obtain⟨a9,rfl,b9⟩:=kd_i h9
 obtain⟨a10,rfl,b10⟩:=kd_B h10
 exact⟨⟨a1,a2,a3,a4,a5,a6,a7,a7',a8,a9,a10⟩,rfl,⟨few6 b3 b4 b7 b7' b8 b9,b5,b10⟩,⟨b1,b2,b6⟩⟩
theorem kd_le {a:AV}(h:HasKd kLe a):∃x,a=leAV x/\LeOk x:=by
 obtain⟨_,rfl,h⟩:=h
 simp only[HasKds]at h
 obtain⟨_,_,rfl,h1,_,_,rfl,h2,_,_,rfl,h3,_,_,rfl,h4,_,_,rfl,h5,rfl⟩:=h
 obtain⟨a1,rfl,b1⟩:=kd_i h1
 obtain⟨a2,rfl,b2⟩:=kd_i h2
 obtain⟨a3,rfl,b3⟩:=kd_i h3
 obtain⟨a4,rfl,b4⟩:=kd_i h4
 obtain⟨a5,rfl,b5⟩:=kd_B h5
 exact⟨⟨a1,a2,a3,a4,a5⟩,rfl,⟨few4 b1 b2 b3 b4,b5⟩⟩
theorem kd_rl {a:AV}(h:HasKd kRl a):∃x,a=rlAV x/\((R64 x.fr/\R64 x.sl/\R64 x.dn/\R64 x.ng/\R64 x.co)/\(x.nm.length<=ML/\x.pat.length<=ML/\x.pr.length<=ML)/\x.tg.length<=ML/\x.vy.length<=ML)/\(∀y∈x.tg,y.length<=ML)/\(∀y∈x.vy,VyR y)/\CdR x.al:=by
 obtain⟨_,rfl,h⟩:=h
 simp only[HasKds]at h
 obtain⟨_,_,rfl,h1,_,_,rfl,h2,_,_,rfl,h3,_,_,rfl,h4,_,_,rfl,h5,_,_,rfl,h6,_,_,rfl,h7,_,_,rfl,h8,_,_,rfl,h9,_,_,rfl,h10,_,_,rfl,h11,_,_,rfl,h12,rfl⟩:=h
 obtain⟨a1,rfl,b1⟩:=kd_str h1
 obtain⟨a2,rfl,b2⟩:=kd_str h2
 obtain⟨a3,rfl,b3,c3⟩:=kd_strs h3
 obtain⟨a4,rfl,b4⟩:=kd_i h4
 obtain⟨a5,rfl,b5⟩:=kd_i h5
 obtain⟨a6,rfl,b6⟩:=kd_i h6
 obtain⟨a7,rfl,b7⟩:=kd_i h7
 obtain⟨l,rfl,h13,h14⟩:=h8
 obtain⟨r,rfl,hr⟩:=vys_of h14
 obtain⟨a9,rfl,b9⟩:=kd_cd h9
 obtain⟨a10,rfl⟩:=h10
 obtain⟨a11,rfl,b11⟩:=kd_i h11
 obtain⟨a12,rfl,b12⟩:=kd_str h12
 exact⟨⟨a1,a2,a3,a4,a5,a6,a7,r,a9,a10,a11,a12⟩,rfl,⟨⟨b4,b5,b6,b7,b11⟩,⟨b1,b2,b12⟩,b3,by rw[vys_length]at h13;exact ml_le h13⟩,c3,hr,b9⟩
theorem kd_re {a:AV}(h:HasKd kRe a):∃x,a=reAV x/\ReR x:=by
 obtain⟨_,rfl,h⟩:=h
 simp only[HasKds]at h
 obtain⟨_,_,rfl,h1,_,_,rfl,h2,_,_,rfl,h3,_,_,rfl,h4,_,_,rfl,h5,_,_,rfl,h6,_,_,rfl,h7,_,_,rfl,h8,_,_,rfl,h9,_,_,rfl,h10,_,_,rfl,h11,_,_,rfl,h12,_,_,rfl,h13,_,_,rfl,h14,_,_,rfl,h15,rfl⟩:=h
 obtain⟨a1,rfl,b1⟩:=kd_i h1
 obtain⟨a2,rfl,b2⟩:=kd_i h2
 obtain⟨_,rfl,h3⟩:=h3
 simp only[HasKds]at h3
 obtain⟨_,_,rfl,h31,_,_,rfl,h32,_,_,rfl,h33,_,_,rfl,h34,_,_,rfl,h35,rfl⟩:=h3
 obtain⟨c1,rfl,d1⟩:=kd_str h31
 obtain⟨c2,rfl,d2⟩:=kd_str h32
 obtain⟨c3,rfl,d3⟩:=kd_str h33
 obtain⟨c4,rfl,d4⟩:=kd_i h34
 obtain⟨_,rfl,h35⟩:=h35
 simp only[HasKds]at h35
 obtain⟨_,_,rfl,h36,_,_,rfl,h37,rfl⟩:=h35
 obtain⟨c5,rfl,d5⟩:=kd_i h36
 obtain⟨c6,rfl,d6⟩:=kd_i h37
 obtain⟨l,rfl,h41,h42⟩:=h4
 obtain⟨hs,rfl,hhs⟩:=hrs_of h42
 obtain⟨tk,rfl,t1,t2⟩:=kd_tk h5
 obtain⟨pol,rfl,p1⟩:=kd_B h6
 obtain⟨rl,rfl,r1,r2,r3,r4⟩:=kd_rl h7
 obtain⟨a8,rfl,b8⟩:=kd_i h8
 obtain⟨sp,rfl,s1,s2⟩:=kd_sp h9
 obtain⟨a10,rfl,b10⟩:=kd_i h10
 obtain⟨_,rfl,h11⟩:=h11
 simp only[HasKds]at h11
 obtain⟨_,_,rfl,h111,_,_,rfl,h112,rfl⟩:=h11
 obtain⟨a11,rfl,b11⟩:=kd_i h111
 obtain⟨a11',rfl,b11'⟩:=kd_i h112
 obtain⟨dat,rfl,dd⟩:=kd_B h12
 obtain⟨le,rfl,l1⟩:=kd_le h13
 obtain⟨a14,rfl,b14⟩:=kd_i h14
 obtain⟨a15,rfl,b15⟩:=kd_i h15
 exact⟨⟨a1,a2,c1,c2,c3,c4,c5,c6,hs,tk,pol,rl,a8,sp,a10,a11,a11',dat,le,a14,a15⟩,rfl,⟨⟨⟨b1,b2,b10,b11,b11',b14,b15,b8⟩,d4,d5,d6⟩,⟨d1,d2,d3⟩,by rw[hrs_length]at h41;exact ml_le h41,hhs,t1,t2,p1,r1,r2,r3,r4,s1,s2,dd,l1⟩⟩
end Go.Proofs.S44.L
namespace Go.Proofs.S44.L
open Go Go.Ev Go.Proofs Go.Proofs.S44
open Go.Proofs.S44.H (strsAV strsAV_length strsAV_get Sml GlK GlR zints Few64 nsI nsI_length nsI_get)
variable {gl :Gl} {n:Nat}
theorem eqSg (a:List UInt8):eqAV .sg (.str a) (.str a)=some true:=by simp[eqAV]
theorem eqIs (a:Int):eqAV .it (i64 a) (i64 a)=some true:=by simp[eqAV]
theorem eqPs (a b:Int):eqAV (.st [.it,.it]) (.agg [i64 a,i64 b]) (.agg [i64 a,i64 b])=some true:=by rw[eqPe];simp
theorem eqBs {a:List UInt8}(h:a.length=16):eqAV (.ar 16 .it) (.agg (bytesAV a)) (.agg (bytesAV a))=some true:=by rw[eqB h h,decide_eq_true rfl]
theorem eqAsk (a b c:List UInt8)(d e f:Int):eqAV (.st [.sg,.sg,.sg,.it,.st [.it,.it]]) (.agg [.str a,.str b,.str c,i64 d,.agg [i64 e,i64 f]]) (.agg [.str a,.str b,.str c,i64 d,.agg [i64 e,i64 f]])=some true:=by
 rw[eqAV];simp only[eqAVs,eqSg,eqIs,eqPs,Option.bind_some,if_pos]
theorem eqHr (a b:List UInt8):eqAV (.st [.sg,.sg]) (.agg [.str a,.str b]) (.agg [.str a,.str b])=some true:=by
 rw[eqAV];simp only[eqAVs,eqSg,Option.bind_some,if_pos]
theorem eqSp {x:Sp}(h:SpOk x):eqAV (.st [.sg,.sg,.it,.it,.ar 16 .it,.sg,.st [.it,.it],.it,.it,.ar 16 .it]) (spAV x) (spAV x)=some true:=by
 have r:=eqBs h.r
 have s:=eqBs h.s
 rw[eqAV];simp only[eqAVs,eqSg,eqIs,eqPs,r,s,Option.bind_some,if_pos]
theorem eqLe {x:Le}(h:LeOk x):eqAV (.st [.it,.it,.it,.it,.ar 16 .it]) (leAV x) (leAV x)=some true:=by
 have s:=eqBs h.s
 rw[eqAV];simp only[eqAVs,eqIs,s,Option.bind_some,if_pos]
def L5 :MC:=match m5 with| .seq _ (.seq _ (.seq _ (.seq _ (.seq _ (.seq _ (.seq _ (.seq _ (.seq _ (.seq (.seq _ (.block _ (.loop _ b))) _)))))))))=>b|_=>.skip
def L5b :MC:=match m5 with| .seq _ (.seq _ (.seq _ (.seq _ (.seq _ (.seq _ (.seq _ (.seq _ (.seq _ (.seq _ (.seq (.seq _ (.block _ (.loop _ b))) _))))))))))=>b|_=>.skip
def L5c :MC:=match m5 with| .seq _ (.seq _ (.seq _ (.seq _ (.seq _ (.seq _ (.seq _ (.seq _ (.seq _ (.seq _ (.seq _ (.seq (.seq _ (.block _ (.loop _ b))) _)))))))))))=>b|_=>.skip
def S5 (k:Nat)(x:Re)(i:Nat):St:=⟨[.set k (i64 i),.set 4 (.ptr 4 []),.set 3 (.ptr 3 [])],[(4,.fix sRe (reAV x)),(3,.fix sRe (reAV x))]⟩
section
variable {d :Nat} {x:Re}
theorem step5 (hl:x.hs.length<=10)(i:Nat)(hi:i<x.hs.length) :
  contK [.slot 3,.slot 4,.slot 11,.key 3,.key 4] (evC gl (call gl tab d) L5 (S5 11 x i))=some (S5 11 x (i+1)):=by
 have hx:=hrs_at hi
 have hcl:=hrs_length x.hs
 rw[S5,S5]
 generalize hat x.hs i=y at *
 simp(disch:=((fail_if_success (intro _));omega)) only[go_sem,simprocAttr,↓reduceIte,↓Nat.reduceEqDiff,xx,L5,m5,↓out16_eq,hx,hcl,eqHr]
theorem step5b (hd:2<=d)(hl:x.tk.cs.length<=8)(ok:∀y∈x.tk.cs,CdOk y)(i:Nat)(hi:i<x.tk.cs.length) :
  contK [.slot 3,.slot 4,.slot 12,.key 3,.key 4] (evC gl (call gl tab d) L5b (S5 12 x i))=some (S5 12 x (i+1)):=by
 have hx:=cds_at hi
 have hcl:=cds_length x.tk.cs
 have c:=@sameC_at gl d hd _ (ok _ (cat_mem hi))
 rw[S5,S5]
 generalize cat x.tk.cs i=y at *
 simp(disch:=((fail_if_success (intro _));omega)) only[go_sem,simprocAttr,↓reduceIte,↓Nat.reduceEqDiff,xx,L5b,m5,↓out16_eq,hx,hcl,c]
theorem step5c (hd:1<=d)(hl:x.rl.vy.length<=8)(ok:∀y∈x.rl.vy,Sml y.v)(i:Nat)(hi:i<x.rl.vy.length) :
  contK [.slot 3,.slot 4,.slot 13,.key 3,.key 4] (evC gl (call gl tab d) L5c (S5 13 x i))=some (S5 13 x (i+1)):=by
 have hx:=vys_at hi
 have hcl:=vys_length x.rl.vy
 have o:=(ok _ (vat_mem hi)).1
 have c:=@texts_at gl d hd false false (vat x.rl.vy i).v (vat x.rl.vy i).v (by omega) (by omega)
 rw[decide_eq_true rfl]at c
 rw[S5,S5]
 generalize vat x.rl.vy i=y at *
 simp(disch:=((fail_if_success (intro _));omega)) only[go_sem,simprocAttr,↓reduceIte,↓Nat.reduceEqDiff,xx,L5c,m5,↓out16_eq,hx,hcl,c,bne_self_eq_false]
end
end Go.Proofs.S44.L
