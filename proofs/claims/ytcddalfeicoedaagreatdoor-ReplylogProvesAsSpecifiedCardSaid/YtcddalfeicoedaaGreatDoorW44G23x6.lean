/-
  Chapter 44: consistency of heads, and the same replies. No condition.
-/
import Derived.Test.YtcddalfeicoedaaGreatDoorW44G22x6
import Derived.Test.YtcddalfeicoedaaGreatDoorW44G20x6
set_option linter.all false
open Nat renaming exists_eq_add_of_le'->wA
namespace Go.Proofs.S44.L
open Go Go.Ev Go.Proofs Go.Proofs.S44
open Go.Proofs.S44.H (strsAV zaa zal Sml GlK GlR zaj zbq nsI zam)
open Go.Proofs.S44.M (Dg dgL dgL_length All16 Sd sB ansL nilA)
variable {gl :Gl} {n:Nat}
section
variable {s z:Int} {f f2 f3:Bool} {sh sh2 sh3:Sh} {l:List Rv} {t:List Dg} {hs:List Hd}
section
variable (h3 :hs=[]\/sh3=sHd) (hhl:hs.length<=60000) (hh:∀y∈hs,HdOk y) {a b:Hd} (oa:HdOk a) (ob:HdOk b)
include h3 hhl hh oa ob
theorem z2w (hn:5<=n)(hx:¬(a∈hs/\b∈hs)) :
  call gl tab n 36 [ldAV s f sh l z f2 sh2 t f3 sh3 (hds hs),hdAV a,hdAV b] []=some (.tup [nilA,i64 5],[],[]):=by
 obtain⟨d,rfl⟩:=wA hn
 have c1:=@zgf gl (d+4) (by omega) f3 sh3 hs a oa h3 hhl hh
 have c2:=@zgf gl (d+4) (by omega) f3 sh3 hs b ob h3 hhl hh
 have u1:=b16 oa.r
 have u2:=b16 oa.s
 have w1:=H.bytes_all a.root
 have w2:=H.bytes_all a.sgn
 have u3:=b16 ob.r
 have u4:=b16 ob.s
 have w3:=H.bytes_all b.root
 have w4:=H.bytes_all b.sgn
 rw[zad (fd:=fd36) rfl]
 by_cases ha:a∈hs
 . have hb:¬b∈hs:=fun e=>hx ⟨ha,e⟩
   rw[decide_eq_true ha]at c1
   rw[decide_eq_false hb]at c2
   simp(maxSteps:=1000000) (disch:=apply zq;omega) only[go_sem,simprocAttr,↓Nat.reduceEqDiff,xx,fd36,m36,↓out16_eq,c1,c2,u1,u2,w1,w2,u3,u4,w3,w4,H.oo]
 . rw[decide_eq_false ha]at c1
   simp(maxSteps:=1000000) (disch:=apply zq;omega) only[go_sem,simprocAttr,↓Nat.reduceEqDiff,xx,fd36,m36,↓out16_eq,c1,u1,u2,w1,w2,u3,u4,w3,w4,H.oo]
theorem zw0 (hn:5<=n)(hx:¬(a∈hs/\b∈hs)) :
  call gl tab n 37 [ldAV s f sh l z f2 sh2 t f3 sh3 (hds hs),hdAV a,hdAV b] []=some (.agg [nilA,i64 5],[],[]):=by
 obtain⟨d,rfl⟩:=wA hn
 have c1:=@zix gl (d+4) (by omega) s z f f2 f3 sh sh2 sh3 l t hs a oa h3 hhl hh
 have c2:=@zix gl (d+4) (by omega) s z f f2 f3 sh sh2 sh3 l t hs b ob h3 hhl hh
 have u1:=b16 oa.r
 have u2:=b16 oa.s
 have w1:=H.bytes_all a.root
 have w2:=H.bytes_all a.sgn
 have u3:=b16 ob.r
 have u4:=b16 ob.s
 have w3:=H.bytes_all b.root
 have w4:=H.bytes_all b.sgn
 rw[zad (fd:=fd37) rfl]
 by_cases ha:a∈hs
 . have hb:¬b∈hs:=fun e=>hx ⟨ha,e⟩
   rw[decide_eq_true ha]at c1
   rw[decide_eq_false hb]at c2
   simp(maxSteps:=1000000) (disch:=apply zq;omega) only[go_sem,simprocAttr,↓Nat.reduceEqDiff,xx,fd37,m37,↓out16_eq,c1,c2,u1,u2,w1,w2,u3,u4,w3,w4,H.oo]
 . rw[decide_eq_false ha]at c1
   simp(maxSteps:=1000000) (disch:=apply zq;omega) only[go_sem,simprocAttr,↓Nat.reduceEqDiff,xx,fd37,m37,↓out16_eq,c1,u1,u2,w1,w2,u3,u4,w3,w4,H.oo]
theorem z7m (hn:5<=n)(ha:a∈hs)(hb:b∈hs)(hi:¬a.size<=b.size) :
  call gl tab n 36 [ldAV s f sh l z f2 sh2 t f3 sh3 (hds hs),hdAV a,hdAV b] []=some (.tup [nilA,i64 1],[],[]):=by
 obtain⟨d,rfl⟩:=wA hn
 have c1:=@zgf gl (d+4) (by omega) f3 sh3 hs a oa h3 hhl hh
 have c2:=@zgf gl (d+4) (by omega) f3 sh3 hs b ob h3 hhl hh
 have u1:=b16 oa.r
 have u2:=b16 oa.s
 have w1:=H.bytes_all a.root
 have w2:=H.bytes_all a.sgn
 have u3:=b16 ob.r
 have u4:=b16 ob.s
 have w3:=H.bytes_all b.root
 have w4:=H.bytes_all b.sgn
 rw[zad (fd:=fd36) rfl]
 rw[decide_eq_true ha]at c1
 rw[decide_eq_true hb]at c2
 simp(maxSteps:=1000000) (disch:=apply zq;omega) only[go_sem,simprocAttr,↓Nat.reduceEqDiff,xx,fd36,m36,↓out16_eq,c1,c2,u1,u2,w1,w2,u3,u4,w3,w4,H.oo]
theorem zz5 (hn:5<=n)(ha:a∈hs)(hb:b∈hs)(hi:¬a.size<=b.size) :
  call gl tab n 37 [ldAV s f sh l z f2 sh2 t f3 sh3 (hds hs),hdAV a,hdAV b] []=some (.agg [nilA,i64 1],[],[]):=by
 obtain⟨d,rfl⟩:=wA hn
 have c1:=@zix gl (d+4) (by omega) s z f f2 f3 sh sh2 sh3 l t hs a oa h3 hhl hh
 have c2:=@zix gl (d+4) (by omega) s z f f2 f3 sh sh2 sh3 l t hs b ob h3 hhl hh
 have u1:=b16 oa.r
 have u2:=b16 oa.s
 have w1:=H.bytes_all a.root
 have w2:=H.bytes_all a.sgn
 have u3:=b16 ob.r
 have u4:=b16 ob.s
 have w3:=H.bytes_all b.root
 have w4:=H.bytes_all b.sgn
 rw[zad (fd:=fd37) rfl]
 rw[decide_eq_true ha]at c1
 rw[decide_eq_true hb]at c2
 simp(maxSteps:=1000000) (disch:=apply zq;omega) only[go_sem,simprocAttr,↓Nat.reduceEqDiff,xx,fd37,m37,↓out16_eq,c1,c2,u1,u2,w1,w2,u3,u4,w3,w4,H.oo]
variable (h2 :Sr l sh) (hl:l.length<=800) (ok:∀x∈l,RvOk gl x) {k m:Nat} (hk:b.size=k) (hm:a.size=m) (hkl:k<=l.length) (hmk:m<=k)
include h2 hl ok hk hm hkl hmk
def pC (l:List Rv)(k m:Nat):List Dg:=if m=0\/m=k then []else Mk.cons M.nd M.em ((fs l).take k) m true
theorem cons_ok [Nonempty (GlK gl)](hn:1001<=n)(ha:a∈hs)(hb:b∈hs) :
  call gl tab n 36 [ldAV s f sh l z f2 sh2 t f3 sh3 (hds hs),hdAV a,hdAV b] []=some (.tup [.lst false sB (dgL (pC l k m)),i64 0],[],[]):=by
 obtain⟨d,rfl⟩:=wA hn
 have c1:=@zgf gl (d+1000) (by omega) f3 sh3 hs a oa h3 hhl hh
 have c2:=@zgf gl (d+1000) (by omega) f3 sh3 hs b ob h3 hhl hh
 have c3:=@zmc gl (d+1000) (by omega) s z f f2 f3 sh sh2 sh3 l t (hds hs) h2 (by omega) ok k hkl
 have lk:(fs (l.take k)).length=k:=by rw[za4,List.length_take];omega
 have al:All16 (fs (l.take k)):=zdp fun x hx=>ok x (List.mem_of_mem_take hx)
 have ft:fs (l.take k)=(fs l).take k:=by simp[fs,List.map_take]
 rw[<-hk]at c3
 have hL:=zbc l
 have hLh:=zb3 hs
 have u1:=b16 oa.r
 have u2:=b16 oa.s
 have w1:=H.bytes_all a.root
 have w2:=H.bytes_all a.sgn
 have u3:=b16 ob.r
 have u4:=b16 ob.s
 have w3:=H.bytes_all b.root
 have w4:=H.bytes_all b.sgn
 rw[decide_eq_true ha]at c1
 rw[decide_eq_true hb]at c2
 rw[zad (fd:=fd36) rfl]
 by_cases e:m=0\/m=k
 . have c4:=@M.consistency_end gl (d+1000) (by omega) (fs (l.take k)) false sB m (by omega) (by omega)
   rw[<-hm]at c4
   rw[pC,if_pos e]
   generalize fs (l.take k)=y at *
   simp(maxSteps:=1000000) (disch:=apply zq;omega) only[go_sem,simprocAttr,↓Nat.reduceEqDiff,xx,fd36,m36,↓out16_eq,c1,c2,c3,c4,u1,u2,w1,w2,u3,u4,w3,w4,H.oo,M.dgL_nil]
 . have c4:=M.consistency_ok (gl:=gl) (n:=d+1000) (l:=fs (l.take k)) (f:=false) (sh:=sB) (m:=m) (by omega) al (by omega) (by omega) (by omega) (.inr rfl)
   rw[<-hm]at c4
   rw[pC,if_neg e,<-ft]
   generalize Mk.cons M.nd M.em (fs (l.take k)) m true=p at *
   have lp:=dgL_length p
   have tp:List.take p.length (dgL p)=dgL p:=List.take_of_length_le (by rw[lp];exact Nat.le_refl _)
   generalize fs (l.take k)=y at *
   simp(maxSteps:=1000000) (disch:=apply zq;omega) only[go_sem,simprocAttr,↓Nat.reduceEqDiff,xx,fd36,m36,↓out16_eq,c1,c2,c3,c4,u1,u2,w1,w2,u3,u4,w3,w4,lp,tp,H.oo]
theorem z4r [Nonempty (GlR gl)](hn:1001<=n)(ok':∀x∈l,RvR gl x)(ha:a∈hs)(hb:b∈hs) :
  ∃p,call gl tab n 37 [ldAV s f sh l z f2 sh2 t f3 sh3 (hds hs),hdAV a,hdAV b] []=some (.agg [p,i64 0],[],[])/\∃f sh,p= .lst f sh (dgL (pC l k m))/\Sd (pC l k m) sh sB:=by
 obtain⟨d,rfl⟩:=wA hn
 have c1:=@zix gl (d+1000) (by omega) s z f f2 f3 sh sh2 sh3 l t hs a oa h3 hhl hh
 have c2:=@zix gl (d+1000) (by omega) s z f f2 f3 sh sh2 sh3 l t hs b ob h3 hhl hh
 have c3:=@zjd gl (d+1000) s z f f2 f3 sh sh2 sh3 l t (hds hs) (by omega) h2 (by omega) ok ok' k hkl
 have lk:((fs l).take k).length=k:=by rw[List.length_take,za4];omega
 have al:All16 ((fs l).take k):=(zdp ok).take _
 rw[<-hk]at c3
 have hL:=zbc l
 have hLh:=zb3 hs
 have u1:=b16 oa.r
 have u2:=b16 oa.s
 have w1:=H.bytes_all a.root
 have w2:=H.bytes_all a.sgn
 have u3:=b16 ob.r
 have u4:=b16 ob.s
 have w3:=H.bytes_all b.root
 have w4:=H.bytes_all b.sgn
 rw[decide_eq_true ha]at c1
 rw[decide_eq_true hb]at c2
 by_cases e:m=0\/m=k
 . have c4:=@M.rconsistency_end gl (d+1000) (by omega) ((fs l).take k) false sB m (by omega) (by omega)
   rw[<-hm]at c4
   refine⟨nilA,?_,true,.sc,by rw[pC,if_pos e];rfl,.inl (by rw[pC,if_pos e])⟩
   rw[zad (fd:=fd37) rfl]
   generalize (fs l).take k=y at *
   simp(maxSteps:=1000000) (disch:=apply zq;omega) only[go_sem,simprocAttr,↓Nat.reduceEqDiff,xx,fd37,m37,↓out16_eq,c1,c2,c3,c4,u1,u2,w1,w2,u3,u4,w3,w4,H.oo]
 . have c4:=M.rconsistency_ok (gl:=gl) (n:=d+1000) (l:=(fs l).take k) (f:=false) (sh:=sB) (m:=m) (by omega) al (by omega) (by omega) (by omega) (.inr rfl)
   rw[<-hm]at c4
   obtain⟨f5,s5,e5,k5⟩:=M.ansL_eq (Mk.cons M.nd M.em ((fs l).take k) m true)
   refine⟨ansL (Mk.cons M.nd M.em ((fs l).take k) m true),?_,f5,s5,by rw[pC,if_neg e];exact e5,by rw[pC,if_neg e];exact k5⟩
   rw[zad (fd:=fd37) rfl]
   rw[e5]at c4 ⊢
   generalize Mk.cons M.nd M.em ((fs l).take k) m true=p at *
   generalize (fs l).take k=y at *
   simp(maxSteps:=1000000) (disch:=apply zq;omega) only[go_sem,simprocAttr,↓Nat.reduceEqDiff,xx,fd37,m37,↓out16_eq,c1,c2,c3,c4,u1,u2,w1,w2,u3,u4,w3,w4,H.oo]
end
end
end Go.Proofs.S44.L
namespace Go.Proofs.S44.L
open Go Go.Ev Go.Proofs Go.Proofs.S44
open Go.Proofs.S44.H (strsAV zaa zal Sml GlK GlR zaj zbq nsI zam)
abbrev kI :Kd:=.int .i64
abbrev kB :Kd:=.ar 16 (.int .u8)
abbrev kCd :Kd:=.st [kI,kI,.str,.sl .str,.sl .str,.sl kI,kI]
abbrev kTk :Kd:=.st [kI,kI,.str,.sl kCd,kB]
abbrev kVy :Kd:=.st [.str,.sl .str,.str]
abbrev kRl :Kd:=.st [.str,.str,.sl .str,kI,kI,kI,kI,.sl kVy,kCd,.bool,kI,.str]
abbrev kHr :Kd:=.st [.str,.str]
abbrev kSp :Kd:=.st [.str,.str,kI,kI,kB,.str,.st [kI,kI],kI,kI,kB]
abbrev kLe :Kd:=.st [kI,kI,kI,kI,kB]
abbrev kRe :Kd:=.st [kI,kI,.st [.str,.str,.str,kI,.st [kI,kI]],.sl kHr,kTk,kB,kRl,kI,kSp,kI,.st [kI,kI],kB,kLe,kI,kI]
theorem zpg {n:Nat}(h:n<=Go.maxLen):n<=ML:=by simpa[Go.maxLen]using h
theorem kd_i {a:AV}(h:HasKd kI a):∃n,a=i64 n/\R64 n:=by
 obtain⟨n,rfl,h1,h2⟩:=h
 exact⟨n,rfl,h1,h2⟩
theorem zek {a:AV}(h:HasKd .str a):∃l,a= .str l/\l.length<=ML:=by
 obtain⟨l,rfl,h1⟩:=h
 exact⟨l,rfl,zpg h1⟩
theorem qcx {a:AV}(h:HasKd (.int .u8) a):∃b:UInt8,a= .int .u8 b.toNat:=by
 obtain⟨n,rfl,h1,h2⟩:=h
 have h3:0<=n:=h1
 have h4:n<=255:=h2
 refine⟨UInt8.ofNat n.toNat,?_⟩
 congr 1
 rw[UInt8.toNat_ofNat']
 omega
theorem zv6 :∀{l:List AV},(∀x∈l,HasKd (.int .u8) x)->∃b:List UInt8,l=zac b
 | [],_=>⟨[],rfl⟩
 | x::l,h=>by
   obtain⟨a,rfl⟩:=qcx (h x (by simp))
   obtain⟨r,rfl⟩:=zv6 (l:=l) fun y hy=>h y (by simp[hy])
   exact⟨a::r,rfl⟩
theorem kd_B {a:AV}(h:HasKd kB a):∃b,a=bAV b/\b.length=16:=by
 obtain⟨l,rfl,hl,h⟩:=h
 obtain⟨b,rfl⟩:=zv6 h
 exact⟨b,rfl,by rw[zab]at hl;exact hl⟩
theorem zy8 :∀{l:List AV},(∀x∈l,HasKd .str x)->∃r:List (List UInt8),l=strsAV r/\∀y∈r,y.length<=ML
 | [],_=>⟨[],rfl,fun y h=>by simp at h⟩
 | x::l,h=>by
   obtain⟨a,rfl,ha⟩:=zek (h x (by simp))
   obtain⟨r,rfl,hr⟩:=zy8 (l:=l) fun y hy=>h y (by simp[hy])
   exact⟨a::r,rfl,fun y hy=>by
    simp at hy
    rcases hy with rfl|hy
    . exact ha
    . exact hr y hy⟩
theorem zpn {a:AV}(h:HasKd (.sl .str) a):∃r,a= .lst false .sc (strsAV r)/\r.length<=ML/\∀y∈r,y.length<=ML:=by
 obtain⟨l,rfl,h1,h2⟩:=h
 obtain⟨r,rfl,hr⟩:=zy8 h2
 exact⟨r,rfl,by rw[zaa]at h1;exact zpg h1,hr⟩
theorem z1d :∀{l:List AV},(∀x∈l,HasKd kI x)->∃r:List Int,l=nsI r/\∀y∈r,R64 y
 | [],_=>⟨[],rfl,fun y h=>by simp at h⟩
 | x::l,h=>by
   obtain⟨a,rfl,ha⟩:=kd_i (h x (by simp))
   obtain⟨r,rfl,hr⟩:=z1d (l:=l) fun y hy=>h y (by simp[hy])
   exact⟨a::r,rfl,fun y hy=>by
    simp at hy
    rcases hy with rfl|hy
    . exact ha
    . exact hr y hy⟩
theorem qbk {a:AV}(h:HasKd (.sl kI) a):∃r,a= .lst false .sc (nsI r)/\r.length<=ML/\∀y∈r,R64 y:=by
 obtain⟨l,rfl,h1,h2⟩:=h
 obtain⟨r,rfl,hr⟩:=z1d h2
 exact⟨r,rfl,by rw[zam]at h1;exact zpg h1,hr⟩
theorem qff {a:AV}(h:HasKd kCd a):∃x,a=cdAV x/\CdR x:=by
 obtain⟨_,rfl,h⟩:=h
 simp only[HasKds]at h
 obtain⟨_,_,rfl,h1,_,_,rfl,h2,_,_,rfl,h3,_,_,rfl,h4,_,_,rfl,h5,_,_,rfl,h6,_,_,rfl,h7,rfl⟩:=h
 obtain⟨a1,rfl,b1⟩:=kd_i h1
 obtain⟨a2,rfl,b2⟩:=kd_i h2
 obtain⟨a3,rfl,b3⟩:=zek h3
 obtain⟨a4,rfl,b4,c4⟩:=zpn h4
 obtain⟨a5,rfl,b5,c5⟩:=zpn h5
 obtain⟨a6,rfl,b6,c6⟩:=qbk h6
 obtain⟨a7,rfl,b7⟩:=kd_i h7
 exact⟨⟨a1,a2,a3,a4,a5,a6,a7⟩,rfl,⟨b1,b2,b7,b3,b4,c4,b5,c5,b6,c6⟩⟩
theorem z8y :∀{l:List AV},(∀x∈l,HasKd kCd x)->∃r:List Cd,l=cds r/\∀y∈r,CdR y
 | [],_=>⟨[],rfl,fun y h=>by simp at h⟩
 | x::l,h=>by
   obtain⟨a,rfl,ha⟩:=qff (h x (by simp))
   obtain⟨r,rfl,hr⟩:=z8y (l:=l) fun y hy=>h y (by simp[hy])
   exact⟨a::r,rfl,fun y hy=>by
    simp at hy
    rcases hy with rfl|hy
    . exact ha
    . exact hr y hy⟩
theorem qkv {a:AV}(h:HasKd kVy a):∃x,a=vyAV x/\VyR x:=by
 obtain⟨_,rfl,h⟩:=h
 simp only[HasKds]at h
 obtain⟨_,_,rfl,h1,_,_,rfl,h2,_,_,rfl,h3,rfl⟩:=h
 obtain⟨a1,rfl,b1⟩:=zek h1
 obtain⟨a2,rfl,b2,c2⟩:=zpn h2
 obtain⟨a3,rfl,b3⟩:=zek h3
 exact⟨⟨a1,a2,a3⟩,rfl,⟨b1,b2,c2,b3⟩⟩
theorem z73 :∀{l:List AV},(∀x∈l,HasKd kVy x)->∃r:List Vy,l=vys r/\∀y∈r,VyR y
 | [],_=>⟨[],rfl,fun y h=>by simp at h⟩
 | x::l,h=>by
   obtain⟨a,rfl,ha⟩:=qkv (h x (by simp))
   obtain⟨r,rfl,hr⟩:=z73 (l:=l) fun y hy=>h y (by simp[hy])
   exact⟨a::r,rfl,fun y hy=>by
    simp at hy
    rcases hy with rfl|hy
    . exact ha
    . exact hr y hy⟩
theorem z8o :∀{l:List AV},(∀x∈l,HasKd kHr x)->∃r:List Hr,l=hrs r/\∀y∈r,y.n.length<=ML/\y.v.length<=ML
 | [],_=>⟨[],rfl,fun y h=>by simp at h⟩
 | x::l,h=>by
   obtain⟨_,rfl,h0⟩:=h x (by simp)
   simp only[HasKds]at h0
   obtain⟨_,_,rfl,h1,_,_,rfl,h2,rfl⟩:=h0
   obtain⟨a1,rfl,b1⟩:=zek h1
   obtain⟨a2,rfl,b2⟩:=zek h2
   obtain⟨r,rfl,hr⟩:=z8o (l:=l) fun y hy=>h y (by simp[hy])
   exact⟨⟨a1,a2⟩::r,rfl,fun y hy=>by
    simp at hy
    rcases hy with rfl|hy
    . exact⟨b1,b2⟩
    . exact hr y hy⟩
theorem qkw {a:AV}(h:HasKd kTk a):∃x,a=tkAV x/\((R64 x.cu/\R64 x.se)/\x.id.length<=ML/\x.cs.length<=ML/\x.sgn.length=16)/\∀y∈x.cs,CdR y:=by
 obtain⟨_,rfl,h⟩:=h
 simp only[HasKds]at h
 obtain⟨_,_,rfl,h1,_,_,rfl,h2,_,_,rfl,h3,_,_,rfl,h4,_,_,rfl,h5,rfl⟩:=h
 obtain⟨a1,rfl,b1⟩:=kd_i h1
 obtain⟨a2,rfl,b2⟩:=kd_i h2
 obtain⟨a3,rfl,b3⟩:=zek h3
 obtain⟨l,rfl,h6,h7⟩:=h4
 obtain⟨r,rfl,hr⟩:=z8y h7
 obtain⟨a5,rfl,b5⟩:=kd_B h5
 exact⟨⟨a1,a2,a3,r,a5⟩,rfl,⟨⟨b1,b2⟩,b3,by rw[zc1]at h6;exact zpg h6,b5⟩,hr⟩
theorem qkx {a:AV}(h:HasKd kSp a):∃x,a=spAV x/\SpOk x/\SpB x:=by
 obtain⟨_,rfl,h⟩:=h
 simp only[HasKds]at h
 obtain⟨_,_,rfl,h1,_,_,rfl,h2,_,_,rfl,h3,_,_,rfl,h4,_,_,rfl,h5,_,_,rfl,h6,_,_,rfl,h7,_,_,rfl,h8,_,_,rfl,h9,_,_,rfl,h10,rfl⟩:=h
 obtain⟨a1,rfl,b1⟩:=zek h1
 obtain⟨a2,rfl,b2⟩:=zek h2
 obtain⟨a3,rfl,b3⟩:=kd_i h3
 obtain⟨a4,rfl,b4⟩:=kd_i h4
 obtain⟨a5,rfl,b5⟩:=kd_B h5
 obtain⟨a6,rfl,b6⟩:=zek h6
 obtain⟨_,rfl,h7⟩:=h7
 simp only[HasKds]at h7
 obtain⟨_,_,rfl,h71,_,_,rfl,h72,rfl⟩:=h7
 obtain⟨a7,rfl,b7⟩:=kd_i h71
 obtain⟨a7',rfl,b7'⟩:=kd_i h72
 obtain⟨a8,rfl,b8⟩:=kd_i h8
 obtain⟨a9,rfl,b9⟩:=kd_i h9
 obtain⟨a10,rfl,b10⟩:=kd_B h10
 exact⟨⟨a1,a2,a3,a4,a5,a6,a7,a7',a8,a9,a10⟩,rfl,⟨few6 b3 b4 b7 b7' b8 b9,b5,b10⟩,⟨b1,b2,b6⟩⟩
theorem qk0 {a:AV}(h:HasKd kLe a):∃x,a=leAV x/\LeOk x:=by
 obtain⟨_,rfl,h⟩:=h
 simp only[HasKds]at h
 obtain⟨_,_,rfl,h1,_,_,rfl,h2,_,_,rfl,h3,_,_,rfl,h4,_,_,rfl,h5,rfl⟩:=h
 obtain⟨a1,rfl,b1⟩:=kd_i h1
 obtain⟨a2,rfl,b2⟩:=kd_i h2
 obtain⟨a3,rfl,b3⟩:=kd_i h3
 obtain⟨a4,rfl,b4⟩:=kd_i h4
 obtain⟨a5,rfl,b5⟩:=kd_B h5
 exact⟨⟨a1,a2,a3,a4,a5⟩,rfl,⟨few4 b1 b2 b3 b4,b5⟩⟩
theorem qky {a:AV}(h:HasKd kRl a):∃x,a=rlAV x/\((R64 x.fr/\R64 x.sl/\R64 x.dn/\R64 x.ng/\R64 x.co)/\(x.nm.length<=ML/\x.pat.length<=ML/\x.pr.length<=ML)/\x.tg.length<=ML/\x.vy.length<=ML)/\(∀y∈x.tg,y.length<=ML)/\(∀y∈x.vy,VyR y)/\CdR x.al:=by
 obtain⟨_,rfl,h⟩:=h
 simp only[HasKds]at h
 obtain⟨_,_,rfl,h1,_,_,rfl,h2,_,_,rfl,h3,_,_,rfl,h4,_,_,rfl,h5,_,_,rfl,h6,_,_,rfl,h7,_,_,rfl,h8,_,_,rfl,h9,_,_,rfl,h10,_,_,rfl,h11,_,_,rfl,h12,rfl⟩:=h
 obtain⟨a1,rfl,b1⟩:=zek h1
 obtain⟨a2,rfl,b2⟩:=zek h2
 obtain⟨a3,rfl,b3,c3⟩:=zpn h3
 obtain⟨a4,rfl,b4⟩:=kd_i h4
 obtain⟨a5,rfl,b5⟩:=kd_i h5
 obtain⟨a6,rfl,b6⟩:=kd_i h6
 obtain⟨a7,rfl,b7⟩:=kd_i h7
 obtain⟨l,rfl,h13,h14⟩:=h8
 obtain⟨r,rfl,hr⟩:=z73 h14
 obtain⟨a9,rfl,b9⟩:=qff h9
 obtain⟨a10,rfl⟩:=h10
 obtain⟨a11,rfl,b11⟩:=kd_i h11
 obtain⟨a12,rfl,b12⟩:=zek h12
 exact⟨⟨a1,a2,a3,a4,a5,a6,a7,r,a9,a10,a11,a12⟩,rfl,⟨⟨b4,b5,b6,b7,b11⟩,⟨b1,b2,b12⟩,b3,by rw[zcz]at h13;exact zpg h13⟩,c3,hr,b9⟩
theorem qkz {a:AV}(h:HasKd kRe a):∃x,a=reAV x/\ReR x:=by
 obtain⟨_,rfl,h⟩:=h
 simp only[HasKds]at h
 obtain⟨_,_,rfl,h1,_,_,rfl,h2,_,_,rfl,h3,_,_,rfl,h4,_,_,rfl,h5,_,_,rfl,h6,_,_,rfl,h7,_,_,rfl,h8,_,_,rfl,h9,_,_,rfl,h10,_,_,rfl,h11,_,_,rfl,h12,_,_,rfl,h13,_,_,rfl,h14,_,_,rfl,h15,rfl⟩:=h
 obtain⟨a1,rfl,b1⟩:=kd_i h1
 obtain⟨a2,rfl,b2⟩:=kd_i h2
 obtain⟨_,rfl,h3⟩:=h3
 simp only[HasKds]at h3
 obtain⟨_,_,rfl,h31,_,_,rfl,h32,_,_,rfl,h33,_,_,rfl,h34,_,_,rfl,h35,rfl⟩:=h3
 obtain⟨c1,rfl,d1⟩:=zek h31
 obtain⟨c2,rfl,d2⟩:=zek h32
 obtain⟨c3,rfl,d3⟩:=zek h33
 obtain⟨c4,rfl,d4⟩:=kd_i h34
 obtain⟨_,rfl,h35⟩:=h35
 simp only[HasKds]at h35
 obtain⟨_,_,rfl,h36,_,_,rfl,h37,rfl⟩:=h35
 obtain⟨c5,rfl,d5⟩:=kd_i h36
 obtain⟨c6,rfl,d6⟩:=kd_i h37
 obtain⟨l,rfl,h41,h42⟩:=h4
 obtain⟨hs,rfl,hhs⟩:=z8o h42
 obtain⟨tk,rfl,t1,t2⟩:=qkw h5
 obtain⟨pol,rfl,p1⟩:=kd_B h6
 obtain⟨rl,rfl,r1,r2,r3,r4⟩:=qky h7
 obtain⟨a8,rfl,b8⟩:=kd_i h8
 obtain⟨sp,rfl,s1,s2⟩:=qkx h9
 obtain⟨a10,rfl,b10⟩:=kd_i h10
 obtain⟨_,rfl,h11⟩:=h11
 simp only[HasKds]at h11
 obtain⟨_,_,rfl,h111,_,_,rfl,h112,rfl⟩:=h11
 obtain⟨a11,rfl,b11⟩:=kd_i h111
 obtain⟨a11',rfl,b11'⟩:=kd_i h112
 obtain⟨dat,rfl,dd⟩:=kd_B h12
 obtain⟨le,rfl,l1⟩:=qk0 h13
 obtain⟨a14,rfl,b14⟩:=kd_i h14
 obtain⟨a15,rfl,b15⟩:=kd_i h15
 exact⟨⟨a1,a2,c1,c2,c3,c4,c5,c6,hs,tk,pol,rl,a8,sp,a10,a11,a11',dat,le,a14,a15⟩,rfl,⟨⟨⟨b1,b2,b10,b11,b11',b14,b15,b8⟩,d4,d5,d6⟩,⟨d1,d2,d3⟩,by rw[zdh]at h41;exact zpg h41,hhs,t1,t2,p1,r1,r2,r3,r4,s1,s2,dd,l1⟩⟩
end Go.Proofs.S44.L
