/-
  Chapter 44: ledgers as they come, short ones. No condition.
-/
import Derived.Test.YtcddalfeicoedaaGreatDoorW44G20x3
set_option linter.all false
open List renaming length_map->wA,mem_map->wB
namespace Go.Proofs.S44.L
open Go Go.Ev Go.Proofs Go.Proofs.S44
open Go.Proofs.S44.H (strsAV zaa zai Sml GlK GlR zam zbn nsI zal)
open Go.Proofs.S44.M (lf zcv Dg dgL dgL_length All16 Sd sB pkAV grw P8 R8 ansL nilA)
variable {gl :Gl} {n:Nat}
def reT (x:Re):List AV:=[.agg [.str x.ad,.str x.cl,.str x.co,i64 x.sx,.agg [i64 x.lo,i64 x.hi]],.lst false sHr (hrs x.hs),tkAV x.tk,bAV x.pol,rlAV x.rl,i64 x.us,spAV x.sp,i64 x.mo,.agg [i64 x.fr,i64 x.to],bAV x.dat,leAV x.le,i64 x.he,i64 x.ca]
def toRv (x:Re):Rv:=⟨x.site,x.seq,reT x,leaf x⟩
theorem zk9 (x:Re):rvAV (toRv x)=reAV x:=rfl
theorem zi4 {x:Re}(r:ReR x):za2 rSh (toRv x).r=true:=by
 have w1:=H.bytes_all x.dat
 have w2:=H.bytes_all x.pol
 have w3:=H.bytes_all x.tk.sgn
 have w4:=H.bytes_all x.sp.body
 have w5:=H.bytes_all x.sp.sgn
 have w6:=H.bytes_all x.le.sgn
 have u1:=r.d
 have u2:=r.p
 have u3:=r.t.2.2.2
 have u4:=r.s.r
 have u5:=r.s.s
 have u6:=r.l.s
 show za2 rSh (reT x)=true
 unfold reT
 simp(disch:=apply zq;omega) only[go_sem,simprocAttr,↓Nat.reduceEqDiff,xx,w1,w2,w3,w4,w5,w6,u1,u2,u3,u4,u5,u6,zab]
theorem zoj [Nonempty (GlK gl)]{x:Re}(r:ReR x)(s:ReS x):RvOk gl (toRv x):=⟨zi4 r,zhh _,fun n h=>leaf_at h r s⟩
theorem zy1 [Nonempty (GlR gl)]{x:Re}(r:ReR x)(s:ReS x):RvR gl (toRv x):=fun n h=>rleaf_at h r s
abbrev kHd :Kd:=.st [kI,kI,kB,.st [kI,kI],kI,kB]
abbrev kLd :Kd:=.st [kI,.sl kRe,.st [kI,.sl kB],.sl kHd]
theorem qkp {a:AV}(h:HasKd kHd a):∃x,a=hdAV x/\HdOk x:=by
 obtain⟨_,rfl,h⟩:=h
 simp only[HasKds]at h
 obtain⟨_,_,rfl,h1,_,_,rfl,h2,_,_,rfl,h3,_,_,rfl,h4,_,_,rfl,h5,_,_,rfl,h6,rfl⟩:=h
 obtain⟨a1,rfl,b1⟩:=kd_i h1
 obtain⟨a2,rfl,b2⟩:=kd_i h2
 obtain⟨a3,rfl,b3⟩:=kd_B h3
 obtain⟨_,rfl,h4⟩:=h4
 simp only[HasKds]at h4
 obtain⟨_,_,rfl,h41,_,_,rfl,h42,rfl⟩:=h4
 obtain⟨a4,rfl,b4⟩:=kd_i h41
 obtain⟨a4',rfl,b4'⟩:=kd_i h42
 obtain⟨a5,rfl,b5⟩:=kd_i h5
 obtain⟨a6,rfl,b6⟩:=kd_B h6
 exact⟨⟨a1,a2,a3,a4,a4',a5,a6⟩,rfl,⟨za3 b1 (few4 b2 b4 b4' b5) (by simp),b3,b6⟩⟩
theorem z8l :∀{l:List AV},(∀x∈l,HasKd kB x)->∃r:List Dg,l=dgL r/\All16 r
 | [],_=>⟨[],rfl,fun y h=>by simp at h⟩
 | x::l,h=>by
   obtain⟨a,rfl,ha⟩:=kd_B (h x (by simp))
   obtain⟨r,rfl,hr⟩:=z8l (l:=l) fun y hy=>h y (by simp[hy])
   exact⟨a::r,rfl,fun y hy=>by
    simp at hy
    rcases hy with rfl|hy
    . exact ha
    . exact hr y hy⟩
theorem qe8 {a:AV}(h:HasKd (.sl kB) a):∃r,a= .lst false sB (dgL r)/\r.length<=ML/\All16 r:=by
 obtain⟨l,rfl,h1,h2⟩:=h
 obtain⟨r,rfl,hr⟩:=z8l h2
 exact⟨r,rfl,by rw[dgL_length]at h1;exact zpa h1,hr⟩
theorem z8f :∀{l:List AV},(∀x∈l,HasKd kHd x)->∃r:List Hd,l=hds r/\∀y∈r,HdOk y
 | [],_=>⟨[],rfl,fun y h=>by simp at h⟩
 | x::l,h=>by
   obtain⟨a,rfl,ha⟩:=qkp (h x (by simp))
   obtain⟨r,rfl,hr⟩:=z8f (l:=l) fun y hy=>h y (by simp[hy])
   exact⟨a::r,rfl,fun y hy=>by
    simp at hy
    rcases hy with rfl|hy
    . exact ha
    . exact hr y hy⟩
theorem z72 :∀{l:List AV},(∀x∈l,HasKd kRe x)->∃r:List Re,l=rvs (r.map toRv)/\∀y∈r,ReR y
 | [],_=>⟨[],rfl,fun y h=>by simp at h⟩
 | x::l,h=>by
   obtain⟨a,rfl,ha⟩:=qe7 (h x (by simp))
   obtain⟨r,rfl,hr⟩:=z72 (l:=l) fun y hy=>h y (by simp[hy])
   exact⟨a::r,rfl,fun y hy=>by
    simp at hy
    rcases hy with rfl|hy
    . exact ha
    . exact hr y hy⟩
structure Lr where
 s:Int
 r:List Re
 z:Int
 t:List Dg
 h:List Hd
abbrev lrAV (x:Lr):AV:=ldAV x.s false sRe (x.r.map toRv) x.z false sB x.t false sHd (hds x.h)
structure LrR (x:Lr):Prop where
 s:R64 x.s
 z:R64 x.z
 rl:x.r.length<=ML
 r:∀y∈x.r,ReR y
 tl:x.t.length<=ML
 t:All16 x.t
 hl:x.h.length<=ML
 h:∀y∈x.h,HdOk y
theorem qkn {a:AV}(h:HasKd kLd a):∃x,a=lrAV x/\LrR x:=by
 obtain⟨_,rfl,h⟩:=h
 simp only[HasKds]at h
 obtain⟨_,_,rfl,h1,_,_,rfl,h2,_,_,rfl,h3,_,_,rfl,h4,rfl⟩:=h
 obtain⟨a1,rfl,b1⟩:=kd_i h1
 obtain⟨l,rfl,h21,h22⟩:=h2
 obtain⟨r,rfl,hr⟩:=z72 h22
 obtain⟨_,rfl,h3⟩:=h3
 simp only[HasKds]at h3
 obtain⟨_,_,rfl,h31,_,_,rfl,h32,rfl⟩:=h3
 obtain⟨z,rfl,hz⟩:=kd_i h31
 obtain⟨t,rfl,t1,t2⟩:=qe8 h32
 obtain⟨q,rfl,h41,h42⟩:=h4
 obtain⟨hs,rfl,hh⟩:=z8f h42
 exact⟨⟨a1,r,z,t,hs⟩,rfl,⟨b1,hz,by rw[zaz,wA]at h21;exact zpa h21,hr,t1,t2,by rw[zbf]at h41;exact zpa h41,hh⟩⟩
def L8 :MC:=match m8 with| .seq _ (.seq _ (.seq (.seq _ (.block _ (.loop _ b))) _))=>b|_=>.skip
def S8 (ld:AV)(i:Nat):St:=⟨[.set 3 (i64 i),.set 1 (.ptr 1 [])],[(1,.fix sLd ld)]⟩
section
variable {s z:Int} {f f2 f3:Bool} {sh2 sh3:Sh} {l:List Rv} {t:List Dg} {U:List AV}
theorem qhy {d:Nat}(hl:l.length<=20)(sh:∀x∈l,za2 rSh x.r=true)(i:Nat)(hi:i<l.length){b:Bool}(c:call gl tab d 9 [rvAV (rat l i)] []=some (.bool b,[],[]))(hb:b=true) :
  zbd [.slot 1,.slot 3,.key 1] (evC gl (call gl tab d) L8 (S8 (ldAV s f sRe l z f2 sh2 t f3 sh3 U) i))=some (S8 (ldAV s f sRe l z f2 sh2 t f3 sh3 U) (i+1)):=by
 have hx:=zhp hi
 have h1:=sh _ (zfc hi)
 have hL:=zaz l
 subst hb
 generalize rat l i=y at *
 rw[S8,S8]
 simp(disch:=apply zq;omega) only[go_sem,simprocAttr,↓Nat.reduceEqDiff,xx,L8,m8,↓out16_eq,H.oo,hx,hL,h1,c]
theorem bad8 {d:Nat}(hl:l.length<=20)(sh:∀x∈l,za2 rSh x.r=true)(i:Nat)(hi:i<l.length){b:Bool}(c:call gl tab d 9 [rvAV (rat l i)] []=some (.bool b,[],[]))(hb:¬b=true) :
  out1 2 (evC gl (call gl tab d) L8 (S8 (ldAV s f sRe l z f2 sh2 t f3 sh3 U) i))=some (.ret,.bool false):=by
 have hx:=zhp hi
 have h1:=sh _ (zfc hi)
 have hL:=zaz l
 obtain rfl:b=false:=by cases b<;>simp_all
 generalize rat l i=y at *
 rw[S8]
 simp(disch:=apply zq;omega) only[go_sem,simprocAttr,↓Nat.reduceEqDiff,xx,L8,m8,↓out16_eq,H.oo,hx,hL,h1,c]
end
structure LrF (x:Lr):Prop where
 r:∀y∈x.r,ReS y
 rl:x.r.length<=20
 hl:x.h.length<=10
 tl:x.t.length<=64
theorem z10 (h:6<=n){x:Lr}(hx:LrR x):∃b:Bool,(b=true->LrF x)/\call gl tab n 8 [lrAV x] []=some (.bool b,[],[]):=by
 obtain⟨d,rfl⟩:=Nat.exists_eq_add_of_le' h
 obtain⟨s,r,z,t,hs⟩:=x
 obtain⟨k1,k2,k3,k4,k5,k6,k7,k8⟩:=hx
 simp only at k1 k2 k3 k4 k5 k6 k7 k8
 unfold ML at k3 k5 k7
 have hL:(rvs (r.map toRv)).length=r.length:=by rw[zaz,wA]
 have hL2:=dgL_length t
 have hL3:=zbf hs
 by_cases g1:r.length<=20
 rotate_left
 . refine⟨false,(fun h=>by cases h),?_⟩
   rw[zad (fd:=fd8) rfl]
   simp(disch:=apply zq;omega) only[go_sem,simprocAttr,↓Nat.reduceEqDiff,xx,fd8,m8,↓out16_eq,H.oo,hL]
 by_cases g2:hs.length<=10
 rotate_left
 . refine⟨false,(fun h=>by cases h),?_⟩
   rw[zad (fd:=fd8) rfl]
   simp(disch:=apply zq;omega) only[go_sem,simprocAttr,↓Nat.reduceEqDiff,xx,fd8,m8,↓out16_eq,H.oo,hL,hL3]
 by_cases g3:t.length<=64
 rotate_left
 . refine⟨false,(fun h=>by cases h),?_⟩
   rw[zad (fd:=fd8) rfl]
   simp(disch:=apply zq;omega) only[go_sem,simprocAttr,↓Nat.reduceEqDiff,xx,fd8,m8,↓out16_eq,H.oo,hL,hL2,hL3]
 have shs:∀y∈r.map toRv,za2 rSh y.r=true:=fun y hy=>by
  obtain⟨w,hw,rfl⟩:=wB.1 hy
  exact zi4 (k4 w hw)
 have hm:(r.map toRv).length=r.length:=wA _
 obtain⟨B,hB⟩:=qaj (N:=r.length) (P:=fun i b=>call gl tab (d+5) 9 [rvAV (rat (r.map toRv) i)] []=some (.bool b,[],[])/\(b=true->∀hi:i<r.length,ReS r[i])) fun i hi=>by
  obtain⟨b,hb,c⟩:=@z8i gl (d+5) (by omega) r[i] (k4 _ (List.getElem_mem hi))
  have e:rat (r.map toRv) i=toRv r[i]:=by rw[rat,List.getD_eq_getElem?_getD,List.getElem?_map,List.getElem?_eq_getElem hi];rfl
  exact⟨b,by rw[e,zk9];exact c,fun h _=>hb h⟩
 have st:=fun i (hi:i<r.length) (hb:B i=true)=>@qhy gl s z false false false sB sHd (r.map toRv) t (hds hs) (d+5) (by omega) shs i (by omega) _ (hB i hi).1 hb
 have bd:=fun i (hi:i<r.length) (hb:¬B i=true)=>@bad8 gl s z false false false sB sHd (r.map toRv) t (hds hs) (d+5) (by omega) shs i (by omega) _ (hB i hi).1 hb
 rcases zbv (fun i=>B i=true) r.length with hA|⟨q,hq,hb',he⟩
 . refine⟨true,fun _=>⟨fun y hy=> ?_,g1,g2,g3⟩,?_⟩
   . obtain⟨i,hi,rfl⟩:=List.getElem_of_mem hy
     exact(hB i hi).2 (hA i hi) hi
   have hs2:=fun i hi=>st i hi (hA i hi)
   simp only[L8,m8,↓out16_eq]at hs2
   rw[zad (fd:=fd8) rfl]
   simp(disch:=apply zq;omega) only[go_sem,simprocAttr,↓Nat.reduceEqDiff,xx,fd8,m8,↓out16_eq,H.oo,hL,hL2,hL3]
   rw[zag (S8 (ldAV s false sRe (r.map toRv) z false sB t false sHd (hds hs))) r.length (by unfold LF;omega)]
   . rw[S8];simp(disch:=apply zq;omega) only[go_sem,simprocAttr,↓Nat.reduceEqDiff,xx,hL]
   . rw[S8];simp(disch:=apply zq;omega) only[go_sem,simprocAttr,↓Nat.reduceEqDiff,xx]
   . exact hs2
   . rw[S8];simp(disch:=apply zq;omega) only[go_sem,simprocAttr,↓Nat.reduceEqDiff,xx,hL]
 . refine⟨false,(fun h=>by cases h),?_⟩
   obtain⟨st',hs1,hg⟩:=zcn (bd q hq he)
   have hs2:=fun i (hi:i<q)=>st i (by omega) (hb' i hi)
   simp only[L8,m8,↓out16_eq]at hs2 hs1
   rw[zad (fd:=fd8) rfl]
   simp(disch:=apply zq;omega) only[go_sem,simprocAttr,↓Nat.reduceEqDiff,xx,fd8,m8,↓out16_eq,H.oo,hL,hL2,hL3]
   rw[zag (S8 (ldAV s false sRe (r.map toRv) z false sB t false sHd (hds hs))) q (by unfold LF;omega),hs1]
   . simp(disch:=apply zq;omega) only[go_sem,simprocAttr,↓Nat.reduceEqDiff,xx,hg]
   . rw[S8];simp(disch:=apply zq;omega) only[go_sem,simprocAttr,↓Nat.reduceEqDiff,xx]
   . exact hs2
   . rw[hs1];rfl
theorem LrR.ok [Nonempty (GlK gl)]{x:Lr}(r:LrR x)(s:LrF x):∀y∈x.r.map toRv,RvOk gl y:=fun y hy=>by
 obtain⟨w,hw,rfl⟩:=wB.1 hy
 exact zoj (r.r w hw) (s.r w hw)
theorem LrR.ok' [Nonempty (GlR gl)]{x:Lr}(r:LrR x)(s:LrF x):∀y∈x.r.map toRv,RvR gl y:=fun y hy=>by
 obtain⟨w,hw,rfl⟩:=wB.1 hy
 exact zy1 (r.r w hw) (s.r w hw)
abbrev LrV (x:Lr):Prop:=VL x.s (x.r.map toRv) x.z x.t x.h
theorem zl3 [Nonempty (GlK gl)][Nonempty (GlR gl)][Nonempty (M.GlB gl)](h:830<=n){x:Lr}(r:LrR x)(s:LrF x) :
  ∃b:Bool,call gl tab n 13 [lrAV x] []=some (.bool b,[],[])/\(b=true↔LrV x) :=
 rvalid_at h (.inr rfl) (by have:=s.rl;rw[wA];omega) (r.ok s) (r.ok' s) (by have:=r.z;unfold R64 at this;omega) (by have:=s.tl;omega) r.t (.inr rfl) (.inr rfl) (by have:=s.hl;omega) r.h
end Go.Proofs.S44.L
namespace Go.Proofs.S44.M
open Go Go.Ev Go.Proofs Go.Mk Go.Proofs.S44
end Go.Proofs.S44.M
namespace Go.Proofs.S44.L
open Go Go.Ev Go.Proofs Go.Proofs.S44
open Go.Proofs.S44.H (strsAV zaa zai Sml GlK GlR zam zbn nsI zal)
open Go.Proofs.S44.M (lf zcv Dg dgL dgL_length All16 Sd sB pkAV grw P8 R8 ansL nilA)
variable {gl :Gl} {n:Nat}
theorem qlh (a:List UInt8):eqAV .sg (.str a) (.str a)=some true:=by simp[eqAV]
theorem qf8 (a:Int):eqAV .it (i64 a) (i64 a)=some true:=by simp[eqAV]
theorem qli (a b:Int):eqAV (.st [.it,.it]) (.agg [i64 a,i64 b]) (.agg [i64 a,i64 b])=some true:=by rw[eqPe];simp
theorem qcc {a:List UInt8}(h:a.length=16):eqAV (.ar 16 .it) (.agg (zac a)) (.agg (zac a))=some true:=by rw[eqB h h,decide_eq_true rfl]
theorem qlg {x:Sp}(h:SpOk x):eqAV (.st [.sg,.sg,.it,.it,.ar 16 .it,.sg,.st [.it,.it],.it,.it,.ar 16 .it]) (spAV x) (spAV x)=some true:=by
 have r:=qcc h.r
 have s:=qcc h.s
 rw[eqAV];simp only[zh2,qlh,qf8,qli,r,s,Option.bind_some,if_pos]
theorem qll {x:Le}(h:LeOk x):eqAV (.st [.it,.it,.it,.it,.ar 16 .it]) (leAV x) (leAV x)=some true:=by
 have s:=qcc h.s
 rw[eqAV];simp only[zh2,qf8,s,Option.bind_some,if_pos]
theorem zzl (h:10<=n){x:Re}(r:ReR x)(s:ReS x):call gl tab n 35 [reAV x,reAV x] []=some (.bool true,[],[]):=by
 obtain⟨d,rfl⟩:=Nat.exists_eq_add_of_le' h
 have hx:=s.ok r
 have c1:=@zqs gl (d+9) (by omega) _ hx
 have c2:=@z3j gl (d+9) (by omega) false false (reP x) (reP x) (by have:=zo2 s;omega) (by have:=zo2 s;omega)
 rw[decide_eq_true rfl]at c2
 have e1:=qlg hx.s
 have e2:=qll hx.l
 obtain⟨⟨u1,u2,u3⟩,u4,u5,u6⟩:=zv7 hx
 have w1:=H.bytes_all x.dat
 have w2:=H.bytes_all x.pol
 have w3:=H.bytes_all x.tk.sgn
 have w4:=H.bytes_all x.sp.body
 have w5:=H.bytes_all x.sp.sgn
 have w6:=H.bytes_all x.le.sgn
 generalize reP x=p at *
 rw[zad (fd:=fd35) rfl]
 simp(maxSteps:=1000000) (disch:=apply zq;omega) only[go_sem,simprocAttr,↓Nat.reduceEqDiff,xx,fd35,m35,↓out16_eq,H.oo,u1,u2,u3,u4,u5,u6,w1,w2,w3,w4,w5,w6,c1,c2,e1,e2]
end Go.Proofs.S44.L
