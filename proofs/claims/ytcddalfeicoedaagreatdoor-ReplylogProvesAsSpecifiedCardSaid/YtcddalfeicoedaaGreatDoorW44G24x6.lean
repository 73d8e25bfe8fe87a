/-
  Chapter 44: ledgers as they come, short ones. No condition.
-/
import Derived.Test.YtcddalfeicoedaaGreatDoorW44G23x6
import Derived.Test.YtcddalfeicoedaaGreatDoorW44G22x6
set_option linter.all false
open List renaming length_map->wA,length_take->wB,length_drop->wC,getD_eq_getElem?_getD->wD,getElem?_eq_getElem->wE,mem_map->wF,getElem_of_mem->wG,getElem?_map->wH,getElem_mem->wI
open Nat renaming exists_eq_add_of_le'->wJ,le_refl->wK
namespace Go.Proofs.S44.L
open Go Go.Ev Go.Proofs Go.Proofs.S44
open Go.Proofs.S44.H (strsAV zaa zal Sml GlK GlR zaj zbq nsI zam)
open Go.Proofs.S44.M (lf zd3 Dg dgL dgL_length All16 Sd sB pkAV grw P8 R8 ansL nilA)
variable {gl :Gl} {n:Nat}
def reT (x:Re):List AV:=[.agg [.str x.ad,.str x.cl,.str x.co,i64 x.sx,.agg [i64 x.lo,i64 x.hi]],.lst false sHr (hrs x.hs),tkAV x.tk,bAV x.pol,rlAV x.rl,i64 x.us,spAV x.sp,i64 x.mo,.agg [i64 x.fr,i64 x.to],bAV x.dat,leAV x.le,i64 x.he,i64 x.ca]
def toRv (x:Re):Rv:=⟨x.site,x.seq,reT x,leaf x⟩
theorem zy6 (x:Re):rvAV (toRv x)=reAV x:=rfl
theorem zsg {x:Re}(r:ReR x):za3 rSh (toRv x).r=true:=by
 have w1:=H.bytes_all x.dat
 have w2:=H.bytes_all x.pol
 have w3:=H.bytes_all x.tk.sgn
 have w4:=H.bytes_all x.sp.body
 have w5:=H.bytes_all x.sp.sgn
 have w6:=H.bytes_all x.le.sgn
 have u1:=r.d
 have u2:=r.p
 have u3:=r.t.2.2.2
 have u4:=r.s.r
 have u5:=r.s.s
 have u6:=r.l.s
 show za3 rSh (reT x)=true
 unfold reT
 simp(disch:=apply zq;omega) only[go_sem,simprocAttr,↓Nat.reduceEqDiff,xx,w1,w2,w3,w4,w5,w6,u1,u2,u3,u4,u5,u6,zab]
theorem z89 [Nonempty (GlK gl)]{x:Re}(r:ReR x)(s:ReS x):RvOk gl (toRv x):=⟨zsg r,zis _,fun n h=>leaf_at h r s⟩
theorem qdq [Nonempty (GlR gl)]{x:Re}(r:ReR x)(s:ReS x):RvR gl (toRv x):=fun n h=>rleaf_at h r s
abbrev kHd :Kd:=.st [kI,kI,kB,.st [kI,kI],kI,kB]
abbrev kLd :Kd:=.st [kI,.sl kRe,.st [kI,.sl kB],.sl kHd]
theorem qbl {a:AV}(h:HasKd kHd a):∃x,a=hdAV x/\HdOk x:=by
 obtain⟨_,rfl,h⟩:=h
 simp only[HasKds]at h
 obtain⟨_,_,rfl,h1,_,_,rfl,h2,_,_,rfl,h3,_,_,rfl,h4,_,_,rfl,h5,_,_,rfl,h6,rfl⟩:=h
 obtain⟨a1,rfl,b1⟩:=kd_i h1
 obtain⟨a2,rfl,b2⟩:=kd_i h2
 obtain⟨a3,rfl,b3⟩:=kd_B h3
 obtain⟨_,rfl,h4⟩:=h4
 simp only[HasKds]at h4
 obtain⟨_,_,rfl,h41,_,_,rfl,h42,rfl⟩:=h4
 obtain⟨a4,rfl,b4⟩:=kd_i h41
 obtain⟨a4',rfl,b4'⟩:=kd_i h42
 obtain⟨a5,rfl,b5⟩:=kd_i h5
 obtain⟨a6,rfl,b6⟩:=kd_B h6
 exact⟨⟨a1,a2,a3,a4,a4',a5,a6⟩,rfl,⟨zbg b1 (few4 b2 b4 b4' b5) (by simp),b3,b6⟩⟩
theorem z8w :∀{l:List AV},(∀x∈l,HasKd kB x)->∃r:List Dg,l=dgL r/\All16 r
 | [],_=>⟨[],rfl,fun y h=>by simp at h⟩
 | x::l,h=>by
   obtain⟨a,rfl,ha⟩:=kd_B (h x (by simp))
   obtain⟨r,rfl,hr⟩:=z8w (l:=l) fun y hy=>h y (by simp[hy])
   exact⟨a::r,rfl,fun y hy=>by
    simp at hy
    rcases hy with rfl|hy
    . exact ha
    . exact hr y hy⟩
theorem qfe {a:AV}(h:HasKd (.sl kB) a):∃r,a= .lst false sB (dgL r)/\r.length<=ML/\All16 r:=by
 obtain⟨l,rfl,h1,h2⟩:=h
 obtain⟨r,rfl,hr⟩:=z8w h2
 exact⟨r,rfl,by rw[dgL_length]at h1;exact zpg h1,hr⟩
theorem z8p :∀{l:List AV},(∀x∈l,HasKd kHd x)->∃r:List Hd,l=hds r/\∀y∈r,HdOk y
 | [],_=>⟨[],rfl,fun y h=>by simp at h⟩
 | x::l,h=>by
   obtain⟨a,rfl,ha⟩:=qbl (h x (by simp))
   obtain⟨r,rfl,hr⟩:=z8p (l:=l) fun y hy=>h y (by simp[hy])
   exact⟨a::r,rfl,fun y hy=>by
    simp at hy
    rcases hy with rfl|hy
    . exact ha
    . exact hr y hy⟩
theorem z8b :∀{l:List AV},(∀x∈l,HasKd kRe x)->∃r:List Re,l=rvs (r.map toRv)/\∀y∈r,ReR y
 | [],_=>⟨[],rfl,fun y h=>by simp at h⟩
 | x::l,h=>by
   obtain⟨a,rfl,ha⟩:=qkz (h x (by simp))
   obtain⟨r,rfl,hr⟩:=z8b (l:=l) fun y hy=>h y (by simp[hy])
   exact⟨a::r,rfl,fun y hy=>by
    simp at hy
    rcases hy with rfl|hy
    . exact ha
    . exact hr y hy⟩
structure Lr where
 s:Int
 r:List Re
 z:Int
 t:List Dg
 h:List Hd
abbrev lrAV (x:Lr):AV:=ldAV x.s false sRe (x.r.map toRv) x.z false sB x.t false sHd (hds x.h)
structure LrR (x:Lr):Prop where
 s:R64 x.s
 z:R64 x.z
 rl:x.r.length<=ML
 r:∀y∈x.r,ReR y
 tl:x.t.length<=ML
 t:All16 x.t
 hl:x.h.length<=ML
 h:∀y∈x.h,HdOk y
theorem qk1 {a:AV}(h:HasKd kLd a):∃x,a=lrAV x/\LrR x:=by
 obtain⟨_,rfl,h⟩:=h
 simp only[HasKds]at h
 obtain⟨_,_,rfl,h1,_,_,rfl,h2,_,_,rfl,h3,_,_,rfl,h4,rfl⟩:=h
 obtain⟨a1,rfl,b1⟩:=kd_i h1
 obtain⟨l,rfl,h21,h22⟩:=h2
 obtain⟨r,rfl,hr⟩:=z8b h22
 obtain⟨_,rfl,h3⟩:=h3
 simp only[HasKds]at h3
 obtain⟨_,_,rfl,h31,_,_,rfl,h32,rfl⟩:=h3
 obtain⟨z,rfl,hz⟩:=kd_i h31
 obtain⟨t,rfl,t1,t2⟩:=qfe h32
 obtain⟨q,rfl,h41,h42⟩:=h4
 obtain⟨hs,rfl,hh⟩:=z8p h42
 exact⟨⟨a1,r,z,t,hs⟩,rfl,⟨b1,hz,by rw[zbc,wA]at h21;exact zpg h21,hr,t1,t2,by rw[zb3]at h41;exact zpg h41,hh⟩⟩
def L8 :MC:=match m8 with| .seq _ (.seq _ (.seq (.seq _ (.block _ (.loop _ b))) _))=>b|_=>.skip
def S8 (ld:AV)(i:Nat):St:=⟨[.set 3 (i64 i),.set 1 (.ptr 1 [])],[(1,.fix sLd ld)]⟩
section
variable {s z:Int} {f f2 f3:Bool} {sh2 sh3:Sh} {l:List Rv} {t:List Dg} {U:List AV}
theorem qia {d:Nat}(hl:l.length<=20)(sh:∀x∈l,za3 rSh x.r=true)(i:Nat)(hi:i<l.length){b:Bool}(c:call gl tab d 9 [rvAV (rat l i)] []=some (.bool b,[],[]))(hb:b=true) :
  zbe [.slot 1,.slot 3,.key 1] (evC gl (call gl tab d) L8 (S8 (ldAV s f sRe l z f2 sh2 t f3 sh3 U) i))=some (S8 (ldAV s f sRe l z f2 sh2 t f3 sh3 U) (i+1)):=by
 have hx:=zj9 hi
 have h1:=sh _ (zgq hi)
 have hL:=zbc l
 subst hb
 generalize rat l i=y at *
 rw[S8,S8]
 simp(disch:=apply zq;omega) only[go_sem,simprocAttr,↓Nat.reduceEqDiff,xx,L8,m8,↓out16_eq,H.oo,hx,hL,h1,c]
theorem bad8 {d:Nat}(hl:l.length<=20)(sh:∀x∈l,za3 rSh x.r=true)(i:Nat)(hi:i<l.length){b:Bool}(c:call gl tab d 9 [rvAV (rat l i)] []=some (.bool b,[],[]))(hb:¬b=true) :
  out1 2 (evC gl (call gl tab d) L8 (S8 (ldAV s f sRe l z f2 sh2 t f3 sh3 U) i))=some (.ret,.bool false):=by
 have hx:=zj9 hi
 have h1:=sh _ (zgq hi)
 have hL:=zbc l
 obtain rfl:b=false:=by cases b<;>simp_all
 generalize rat l i=y at *
 rw[S8]
 simp(disch:=apply zq;omega) only[go_sem,simprocAttr,↓Nat.reduceEqDiff,xx,L8,m8,↓out16_eq,H.oo,hx,hL,h1,c]
end
theorem qal {r:List Re}{i:Nat}(hi:i<r.length):∃y∈r,rat (r.map toRv) i=toRv y:=by
 refine⟨r[i],wI hi,?_⟩
 rw[rat,wD,wH,wE hi];rfl
structure LrF (x:Lr):Prop where
 r:∀y∈x.r,ReS y
 rl:x.r.length<=20
 hl:x.h.length<=10
 tl:x.t.length<=64
theorem z17 (h:6<=n){x:Lr}(hx:LrR x):∃b:Bool,(b=true->LrF x)/\call gl tab n 8 [lrAV x] []=some (.bool b,[],[]):=by
 obtain⟨d,rfl⟩:=wJ h
 obtain⟨s,r,z,t,hs⟩:=x
 obtain⟨k1,k2,k3,k4,k5,k6,k7,k8⟩:=hx
 simp only at k1 k2 k3 k4 k5 k6 k7 k8
 unfold ML at k3 k5 k7
 have hL:(rvs (r.map toRv)).length=r.length:=by rw[zbc,wA]
 have hL2:=dgL_length t
 have hL3:=zb3 hs
 by_cases g1:r.length<=20
 rotate_left
 . refine⟨false,(fun h=>by cases h),?_⟩
   rw[zad (fd:=fd8) rfl]
   simp(disch:=apply zq;omega) only[go_sem,simprocAttr,↓Nat.reduceEqDiff,xx,fd8,m8,↓out16_eq,H.oo,hL]
 by_cases g2:hs.length<=10
 rotate_left
 . refine⟨false,(fun h=>by cases h),?_⟩
   rw[zad (fd:=fd8) rfl]
   simp(disch:=apply zq;omega) only[go_sem,simprocAttr,↓Nat.reduceEqDiff,xx,fd8,m8,↓out16_eq,H.oo,hL,hL3]
 by_cases g3:t.length<=64
 rotate_left
 . refine⟨false,(fun h=>by cases h),?_⟩
   rw[zad (fd:=fd8) rfl]
   simp(disch:=apply zq;omega) only[go_sem,simprocAttr,↓Nat.reduceEqDiff,xx,fd8,m8,↓out16_eq,H.oo,hL,hL2,hL3]
 have shs:∀y∈r.map toRv,za3 rSh y.r=true:=fun y hy=>by
  obtain⟨w,hw,rfl⟩:=wF.1 hy
  exact zsg (k4 w hw)
 have hm:(r.map toRv).length=r.length:=wA _
 obtain⟨B,hB⟩:=qaq (N:=r.length) (P:=fun i b=>call gl tab (d+5) 9 [rvAV (rat (r.map toRv) i)] []=some (.bool b,[],[])/\(b=true->∀hi:i<r.length,ReS r[i])) fun i hi=>by
  obtain⟨b,hb,c⟩:=@qf8 gl (d+5) (by omega) r[i] (k4 _ (wI hi))
  have e:rat (r.map toRv) i=toRv r[i]:=by rw[rat,wD,wH,wE hi];rfl
  exact⟨b,by rw[e,zy6];exact c,fun h _=>hb h⟩
 have st:=fun i (hi:i<r.length) (hb:B i=true)=>@qia gl s z false false false sB sHd (r.map toRv) t (hds hs) (d+5) (by omega) shs i (by omega) _ (hB i hi).1 hb
 have bd:=fun i (hi:i<r.length) (hb:¬B i=true)=>@bad8 gl s z false false false sB sHd (r.map toRv) t (hds hs) (d+5) (by omega) shs i (by omega) _ (hB i hi).1 hb
 rcases zb8 (fun i=>B i=true) r.length with hA|⟨q,hq,hb',he⟩
 . refine⟨true,fun _=>⟨fun y hy=> ?_,g1,g2,g3⟩,?_⟩
   . obtain⟨i,hi,rfl⟩:=wG hy
     exact(hB i hi).2 (hA i hi) hi
   have hs2:=fun i hi=>st i hi (hA i hi)
   simp only[L8,m8,↓out16_eq]at hs2
   rw[zad (fd:=fd8) rfl]
   simp(disch:=apply zq;omega) only[go_sem,simprocAttr,↓Nat.reduceEqDiff,xx,fd8,m8,↓out16_eq,H.oo,hL,hL2,hL3]
   rw[zai (S8 (ldAV s false sRe (r.map toRv) z false sB t false sHd (hds hs))) r.length (by unfold LF;omega)]
   . rw[S8];simp(disch:=apply zq;omega) only[go_sem,simprocAttr,↓Nat.reduceEqDiff,xx,hL]
   . rw[S8];simp(disch:=apply zq;omega) only[go_sem,simprocAttr,↓Nat.reduceEqDiff,xx]
   . exact hs2
   . rw[S8];simp(disch:=apply zq;omega) only[go_sem,simprocAttr,↓Nat.reduceEqDiff,xx,hL]
 . refine⟨false,(fun h=>by cases h),?_⟩
   obtain⟨st',hs1,hg⟩:=zc9 (bd q hq he)
   have hs2:=fun i (hi:i<q)=>st i (by omega) (hb' i hi)
   simp only[L8,m8,↓out16_eq]at hs2 hs1
   rw[zad (fd:=fd8) rfl]
   simp(disch:=apply zq;omega) only[go_sem,simprocAttr,↓Nat.reduceEqDiff,xx,fd8,m8,↓out16_eq,H.oo,hL,hL2,hL3]
   rw[zai (S8 (ldAV s false sRe (r.map toRv) z false sB t false sHd (hds hs))) q (by unfold LF;omega),hs1]
   . simp(disch:=apply zq;omega) only[go_sem,simprocAttr,↓Nat.reduceEqDiff,xx,hg]
   . rw[S8];simp(disch:=apply zq;omega) only[go_sem,simprocAttr,↓Nat.reduceEqDiff,xx]
   . exact hs2
   . rw[hs1];rfl
theorem LrR.ok [Nonempty (GlK gl)]{x:Lr}(r:LrR x)(s:LrF x):∀y∈x.r.map toRv,RvOk gl y:=fun y hy=>by
 obtain⟨w,hw,rfl⟩:=wF.1 hy
 exact z89 (r.r w hw) (s.r w hw)
theorem LrR.ok' [Nonempty (GlR gl)]{x:Lr}(r:LrR x)(s:LrF x):∀y∈x.r.map toRv,RvR gl y:=fun y hy=>by
 obtain⟨w,hw,rfl⟩:=wF.1 hy
 exact qdq (r.r w hw) (s.r w hw)
abbrev LrV (x:Lr):Prop:=VL x.s (x.r.map toRv) x.z x.t x.h
theorem z0t [Nonempty (GlK gl)][Nonempty (GlR gl)][Nonempty (M.GlB gl)](h:830<=n){x:Lr}(r:LrR x)(s:LrF x) :
  ∃b:Bool,call gl tab n 13 [lrAV x] []=some (.bool b,[],[])/\(b=true↔LrV x) :=
 zzr h (.inr rfl) (by have:=s.rl;rw[wA];omega) (r.ok s) (r.ok' s) (by have:=r.z;unfold R64 at this;omega) (by have:=s.tl;omega) r.t (.inr rfl) (.inr rfl) (by have:=s.hl;omega) r.h
theorem qb5 [Nonempty (GlK gl)][Nonempty (GlR gl)][Nonempty (M.GlB gl)](h:831<=n){x:Lr}(r:LrR x) :
  ∃b:Bool,(b=true->LrF x/\LrV x)/\call gl tab n 32 [lrAV x] []=some (.bool b,[],[]):=by
 obtain⟨d,rfl⟩:=wJ h
 obtain⟨b,hb,c⟩:=@z17 gl (d+830) (by omega) x r
 rw[lrAV]at c
 cases b
 . refine⟨false,(fun h=>by cases h),?_⟩
   rw[zad (fd:=fd32) rfl]
   simp(disch:=apply zq;omega) only[go_sem,simprocAttr,↓Nat.reduceEqDiff,xx,fd32,m32,c]
 . obtain⟨v,c2,hv⟩:=@z0t gl (d+830) _ _ _ (by omega) x r (hb rfl)
   refine⟨v,fun h=>⟨hb rfl,hv.1 h⟩,?_⟩
   rw[lrAV]at c2
   rw[zad (fd:=fd32) rfl]
   simp(disch:=apply zq;omega) only[go_sem,simprocAttr,↓Nat.reduceEqDiff,xx,fd32,m32,c,c2]
end Go.Proofs.S44.L
namespace Go.Proofs.S44.M
open Go Go.Ev Go.Proofs Go.Mk Go.Proofs.S44
theorem incl_all :∀(c:Nat) (l:List Dg) (i:Nat),l.length<=c->All16 l->All16 (incl nd em l i)
 | 0,l,i,h,ha=>by rw[ze6 (by omega)];exact All16.nil
 | c+1,l,i,h,ha=>by
   by_cases h2:2<=l.length
   . have hk:=zcu h2
     have hp:=zce l.length
     by_cases hi:i<spl l.length
     . rw[zmn h2 hi]
       exact(incl_all c _ i (by rw[wB];omega) (ha.take _)).app (.one (rt_len (ha.drop _)))
     . rw[zmo h2 hi]
       exact(incl_all c _ _ (by rw[wC];omega) (ha.drop _)).app (.one (rt_len (ha.take _)))
   . rw[ze6 (by omega)];exact All16.nil
theorem cons_all16 :∀(c:Nat) (l:List Dg) (m:Nat) (mark:Bool),l.length<=c->1<=m->m<=l.length->All16 l->All16 (cons nd em l m mark)
 | 0,l,m,mark,h,h1,hm,ha=>by omega
 | c+1,l,m,mark,h,h1,hm,ha=>by
   by_cases he:m=l.length
   . subst he
     rw[zgg];cases mark
     . exact .one (rt_len ha)
     . exact All16.nil
   . have h2:2<=l.length:=by omega
     have hk:=zcu h2
     have hp:=zce l.length
     by_cases hi:m<=spl l.length
     . rw[zjy h2 he hi]
       exact(cons_all16 c _ m mark (by rw[wB];omega) h1 (by rw[wB];omega) (ha.take _)).app (.one (rt_len (ha.drop _)))
     . rw[zjz h2 he hi]
       exact(cons_all16 c _ _ false (by rw[wC];omega) (by omega) (by rw[wC];omega) (ha.drop _)).app (.one (rt_len (ha.take _)))
end Go.Proofs.S44.M
namespace Go.Proofs.S44.L
open Go Go.Ev Go.Proofs Go.Proofs.S44
open Go.Proofs.S44.H (strsAV zaa zal Sml GlK GlR zaj zbq nsI zam)
open Go.Proofs.S44.M (lf zd3 Dg dgL dgL_length All16 Sd sB pkAV grw P8 R8 ansL nilA)
variable {gl :Gl} {n:Nat}
theorem qls (a:List UInt8):eqAV .sg (.str a) (.str a)=some true:=by simp[eqAV]
theorem qgj (a:Int):eqAV .it (i64 a) (i64 a)=some true:=by simp[eqAV]
theorem qlt (a b:Int):eqAV (.st [.it,.it]) (.agg [i64 a,i64 b]) (.agg [i64 a,i64 b])=some true:=by rw[eqPe];simp
theorem qcg {a:List UInt8}(h:a.length=16):eqAV (.ar 16 .it) (.agg (zac a)) (.agg (zac a))=some true:=by rw[eqB h h,decide_eq_true rfl]
theorem qgh {x:Sp}(h:SpOk x):eqAV (.st [.sg,.sg,.it,.it,.ar 16 .it,.sg,.st [.it,.it],.it,.it,.ar 16 .it]) (spAV x) (spAV x)=some true:=by
 have r:=qcg h.r
 have s:=qcg h.s
 rw[eqAV];simp only[zh6,qls,qgj,qlt,r,s,Option.bind_some,if_pos]
theorem qgi {x:Le}(h:LeOk x):eqAV (.st [.it,.it,.it,.it,.ar 16 .it]) (leAV x) (leAV x)=some true:=by
 have s:=qcg h.s
 rw[eqAV];simp only[zh6,qgj,s,Option.bind_some,if_pos]
theorem zzp (h:10<=n){x:Re}(r:ReR x)(s:ReS x):call gl tab n 35 [reAV x,reAV x] []=some (.bool true,[],[]):=by
 obtain⟨d,rfl⟩:=wJ h
 have hx:=s.ok r
 have c1:=@zqs gl (d+9) (by omega) _ hx
 have c2:=@zuj gl (d+9) (by omega) false false (reP x) (reP x) (by have:=zjh s;omega) (by have:=zjh s;omega)
 rw[decide_eq_true rfl]at c2
 have e1:=qgh hx.s
 have e2:=qgi hx.l
 obtain⟨⟨u1,u2,u3⟩,u4,u5,u6⟩:=zv7 hx
 have w1:=H.bytes_all x.dat
 have w2:=H.bytes_all x.pol
 have w3:=H.bytes_all x.tk.sgn
 have w4:=H.bytes_all x.sp.body
 have w5:=H.bytes_all x.sp.sgn
 have w6:=H.bytes_all x.le.sgn
 generalize reP x=p at *
 rw[zad (fd:=fd35) rfl]
 simp(maxSteps:=1000000) (disch:=apply zq;omega) only[go_sem,simprocAttr,↓Nat.reduceEqDiff,xx,fd35,m35,↓out16_eq,H.oo,u1,u2,u3,u4,u5,u6,w1,w2,w3,w4,w5,w6,c1,c2,e1,e2]
theorem zwp (h:10<=n):call gl tab n 35 [zL0,zL0] []=some (.bool true,[],[]):=by
 obtain⟨d,rfl⟩:=wJ h
 have hx:=zR0S.ok zR0R
 have c1:=@zwt gl (d+9) (by omega) _ hx rfl rfl rfl rfl rfl
 have c2:=@zuj gl (d+9) (by omega) false false (reP zR0) (reP zR0) (by have:=zjh zR0S;omega) (by have:=zjh zR0S;omega)
 rw[decide_eq_true rfl]at c2
 rw[<-qdl]at c1
 have e1:eqAV (.st [.sg,.sg,.it,.it,.ar 16 .it,.sg,.st [.it,.it],.it,.it,.ar 16 .it]) (.agg [.str [],.str [],i64 0,i64 0,.agg H.out16l,.str [],.agg [i64 0,i64 0],i64 0,i64 0,.agg H.out16l]) (.agg [.str [],.str [],i64 0,i64 0,.agg H.out16l,.str [],.agg [i64 0,i64 0],i64 0,i64 0,.agg H.out16l])=some true:=qgh hx.s
 have e2:eqAV (.st [.it,.it,.it,.it,.ar 16 .it]) (.agg [i64 0,i64 0,i64 0,i64 0,.agg H.out16l]) (.agg [i64 0,i64 0,i64 0,i64 0,.agg H.out16l])=some true:=qgi hx.l
 generalize reP zR0=p at *
 rw[zad (fd:=fd35) rfl]
 simp(maxSteps:=1000000) (disch:=apply zq;omega) only[go_sem,simprocAttr,↓Nat.reduceEqDiff,xx,fd35,m35,↓out16_eq,H.oo,c1,c2,e1,e2]
end Go.Proofs.S44.L
namespace Go.Proofs.S44.L
open Go Go.Ev Go.Proofs Go.Proofs.S44
open Go.Proofs.S44.H (strsAV zaa zal Sml GlK GlR zaj zbq nsI zam)
open Go.Proofs.S44.M (lf zd3 Dg dgL dgL_length All16 Sd sB pkAV grw P8 R8 ansL nilA)
variable {gl :Gl} {n:Nat}
structure PT (gl:Gl)(n:Nat)(v:Rv)(g:Hd)(p:List Dg)(s s':Sh):Prop where
 o1:za3 rSh v.r=true
 o2:HdOk g
 o3:All16 p
 o4:Sd p s sB
 o5:Sd p s' sB
 o6:p.length<=1000
 same:call gl tab n 35 [rvAV v,rvAV v] []=some (.bool true,[],[])
def zV0 :Rv:=⟨0,0,match zL0 with| .agg (_::_::r)=>r|_=>[],leaf zR0⟩
theorem qdk :rvAV zV0=zL0:=rfl
section
variable [Nonempty (GlK gl)] [Nonempty (GlR gl)]
omit [Nonempty (GlK gl)] [Nonempty (GlR gl)] in
theorem PT.zero (h:10<=n):PT gl n zV0 hd00 [] .sc .sc:=⟨by rfl,qbv,by intro y hy;simp at hy,.inl rfl,.inl rfl,by simp,by rw[qdk];exact zwp h⟩
theorem zpr {x:Lr}(r:LrR x)(s:LrF x)(v:LrV x){h:Hd}(hx:h∈x.h):∃k:Nat,h.size=k/\k<=x.r.length:=by
 obtain⟨i,hi,rfl⟩:=wG hx
 have q:=v.2.2.2 i hi
 rw[HV,show hdat x.h i=x.h[i] by simp[hdat,hi],wA]at q
 exact⟨x.h[i].size.toNat,by omega,by omega⟩
theorem z0a (hn:1001<=n){x:Lr}(r:LrR x)(s:LrF x)(v:LrV x){h:Hd}(o:HdOk h)(i:Int) :
  ∃w g p f s1 f' s2 e,call gl tab n 21 [lrAV x,i64 i,hdAV h] []=some (.tup [.agg [rvAV w,hdAV g,.lst f s1 (dgL p)],i64 e],[],[]) /\
   call gl tab n 33 [lrAV x,i64 i,hdAV h] []=some (.agg [.agg [rvAV w,hdAV g,.lst f' s2 (dgL p)],i64 e],[],[])/\PT gl n w g p s1 s2:=by
 have hl:(x.r.map toRv).length=x.r.length:=wA _
 have b1:=s.rl
 have b2:=s.hl
 by_cases hx:h∈x.h
 rotate_left
 . exact⟨zV0,hd00,[],true,.sc,true,.sc,5,zw2 (.inr rfl) (by omega) r.h o (by omega) hx i,zsq (.inr rfl) (by omega) r.h o (by omega) hx i,.zero (by omega)⟩
 by_cases hi:0<=i/\i<h.size
 rotate_left
 . exact⟨zV0,hd00,[],true,.sc,true,.sc,1,z0b (.inr rfl) (by omega) r.h o (by omega) hx hi,zws (.inr rfl) (by omega) r.h o (by omega) hx hi,.zero (by omega)⟩
 obtain⟨k,hk,hkl⟩:=zpr r s v hx
 obtain⟨j,rfl⟩:∃j:Nat,i=(j:Int):=⟨i.toNat,by omega⟩
 have c1:=zuu (gl:=gl) (s:=x.s) (z:=x.z) (f:=false) (f2:=false) (f3:=false) (sh:=sRe) (sh2:=sB) (sh3:=sHd) (l:=x.r.map toRv) (t:=x.t) (hs:=x.h) hn (.inr rfl) (by omega) (r.ok s) (.inr rfl) (by omega) r.h hx hk (by omega) (i:=j) (by omega)
 have c2:=zzt (gl:=gl) (s:=x.s) (z:=x.z) (f:=false) (f2:=false) (f3:=false) (sh:=sRe) (sh2:=sB) (sh3:=sHd) (l:=x.r.map toRv) (t:=x.t) (hs:=x.h) hn (.inr rfl) (by omega) (r.ok s) (r.ok' s) (.inr rfl) (by omega) r.h hx hk (by omega) (i:=j) (by omega)
 have ft:fs ((x.r.map toRv).take k)=(fs (x.r.map toRv)).take k:=by simp[fs,List.map_take]
 rw[ft]at c1
 obtain⟨f5,s5,e5,k5⟩:=M.ansL_eq (Mk.incl M.nd M.em ((fs (x.r.map toRv)).take k) j)
 rw[e5]at c2
 obtain⟨y,hy,ey⟩:=@qal x.r j (by omega)
 have al:=(zdp (gl:=gl) (r.ok s)).take k
 have lt:((fs (x.r.map toRv)).take k).length=k:=by rw[wB,za4];omega
 have le:=M.incl_le _ ((fs (x.r.map toRv)).take k) j (wK _)
 exact⟨_,h,_,_,_,_,_,0,c1,c2,⟨by rw[ey];exact zsg (r.r y hy),o,M.incl_all _ _ _ (wK _) al,.inr rfl,k5,by omega,by rw[ey,zy6];exact zzp (by omega) (r.r y hy) (s.r y hy)⟩⟩
theorem z7l (hn:1001<=n){x:Lr}(r:LrR x)(s:LrF x)(v:LrV x){a b:Hd}(oa:HdOk a)(ob:HdOk b) :
  ∃p f s1 f' s2 e,call gl tab n 36 [lrAV x,hdAV a,hdAV b] []=some (.tup [.lst f s1 (dgL p),i64 e],[],[]) /\
   call gl tab n 37 [lrAV x,hdAV a,hdAV b] []=some (.agg [.lst f' s2 (dgL p),i64 e],[],[])/\All16 p/\Sd p s1 sB/\Sd p s2 sB/\p.length<=1000:=by
 have hl:(x.r.map toRv).length=x.r.length:=wA _
 have b1:=s.rl
 have b2:=s.hl
 have z16:All16 []:=by intro y hy;simp at hy
 by_cases hx:a∈x.h/\b∈x.h
 rotate_left
 . exact⟨[],true,.sc,true,.sc,5,z2w (.inr rfl) (by omega) r.h oa ob (by omega) hx,zw0 (.inr rfl) (by omega) r.h oa ob (by omega) hx,z16,.inl rfl,.inl rfl,by simp⟩
 by_cases hi:a.size<=b.size
 rotate_left
 . exact⟨[],true,.sc,true,.sc,1,z7m (.inr rfl) (by omega) r.h oa ob (by omega) hx.1 hx.2 hi,zz5 (.inr rfl) (by omega) r.h oa ob (by omega) hx.1 hx.2 hi,z16,.inl rfl,.inl rfl,by simp⟩
 obtain⟨k,hk,hkl⟩:=zpr r s v hx.2
 obtain⟨m,hm,hml⟩:=zpr r s v hx.1
 have c1:=cons_ok (gl:=gl) (s:=x.s) (z:=x.z) (f:=false) (f2:=false) (f3:=false) (sh:=sRe) (sh2:=sB) (sh3:=sHd) (l:=x.r.map toRv) (t:=x.t) (hs:=x.h) (.inr rfl) (by omega) r.h oa ob (.inr rfl) (by omega) (r.ok s) hk hm (by omega) (by omega) hn hx.1 hx.2
 obtain⟨q,c2,f,sh,rfl,hq⟩:=z4r (gl:=gl) (s:=x.s) (z:=x.z) (f:=false) (f2:=false) (f3:=false) (sh:=sRe) (sh2:=sB) (sh3:=sHd) (l:=x.r.map toRv) (t:=x.t) (hs:=x.h) (.inr rfl) (by omega) r.h oa ob (.inr rfl) (by omega) (r.ok s) hk hm (by omega) (by omega) hn (r.ok' s) hx.1 hx.2
 have al:=(zdp (gl:=gl) (r.ok s)).take k
 have lt:((fs (x.r.map toRv)).take k).length=k:=by rw[wB,za4];omega
 refine⟨_,_,_,_,_,0,c1,c2,?_,.inr rfl,hq,?_⟩
 . rw[pC]
   split
   . exact z16
   . exact M.cons_all16 _ _ _ _ (wK _) (by omega) (by omega) al
 . rw[pC]
   split
   . simp
   . have:=M.cons_le _ ((fs (x.r.map toRv)).take k) m true (wK _) (by omega) (by omega)
     omega
end
set_option maxHeartbeats 2000000 in
theorem law6 [Nonempty (GlK gl)][Nonempty (GlR gl)][Nonempty (M.GlB gl)](hn:2010<=n)(ar:List AV)(h:HasKds [kLd,kI,kHd,kHd] ar):call gl tab (n+1) 6 ar []=some (.bool true,[],[]):=by
 simp only[HasKds]at h
 obtain⟨_,_,rfl,h1,_,_,rfl,h2,_,_,rfl,h3,_,_,rfl,h4,rfl⟩:=h
 obtain⟨x,rfl,rx⟩:=qk1 h1
 obtain⟨i,rfl,ri⟩:=kd_i h2
 obtain⟨a,rfl,oa⟩:=qbl h3
 obtain⟨b,rfl,ob⟩:=qbl h4
 clear h1 h2 h3 h4
 have ca:=@zzo gl n _ _ (by omega)
 obtain⟨bf,hf,cf⟩:=@qb5 gl n _ _ _ (by omega) x rx
 have v1:=b16 oa.r
 have v2:=b16 oa.s
 have v3:=b16 ob.r
 have v4:=b16 ob.s
 have x1:=H.bytes_all a.root
 have x2:=H.bytes_all a.sgn
 have x3:=H.bytes_all b.root
 have x4:=H.bytes_all b.sgn
 cases bf
 case false =>
  rw[lrAV]at cf ⊢
  generalize x.r.map toRv=l at *
  generalize hds x.h=U at *
  rw[zad (fd:=fd6) rfl]
  simp(maxSteps:=1000000) (disch:=apply zq;omega) only[go_sem,simprocAttr,↓Nat.reduceEqDiff,xx,fd6,m6,↓out16_eq,ca,cf,v1,v2,v3,v4,x1,x2,x3,x4,H.oo]
 obtain⟨hs,hv⟩:=hf rfl
 obtain⟨w,g,p,f,s1,f',s2,e,c1,c2,o1,o2,o3,o4,o5,o6,o7⟩:=z0a (gl:=gl) (n:=n) (by omega) rx hs hv oa i
 obtain⟨p',f3,s3,f4,s4,e',c3,c4,o8,o9,o10,o11⟩:=z7l (gl:=gl) (n:=n) (by omega) rx hs hv oa ob
 have c5:=@M.same_dec gl n (by omega) f f' s1 s2 p p o3 o3 o4 o5 (by omega) (by omega)
 rw[decide_eq_true rfl]at c5
 have c6:=@M.same_dec gl n (by omega) f3 f4 s3 s4 p' p' o8 o8 o9 o10 (by omega) (by omega)
 rw[decide_eq_true rfl]at c6
 have eh:=eqHd o2 o2
 rw[decide_eq_true rfl]at eh
 have u1:=b16 o2.r
 have u2:=b16 o2.s
 have w1:=H.bytes_all g.root
 have w2:=H.bytes_all g.sgn
 have u1':=o2.r
 have u2':=o2.s
 have ee:(e != e)=false:=bne_self_eq_false _
 have ee':(e'==e')=true:=beq_self_eq_true _
 rw[lrAV]at cf c1 c2 c3 c4 ⊢
 generalize x.r.map toRv=l at *
 generalize hds x.h=U at *
 generalize dgL p=P at *
 generalize dgL p'=P' at *
 rw[zad (fd:=fd6) rfl]
 simp(maxSteps:=1000000) (disch:=apply zq;omega) only[go_sem,simprocAttr,↓Nat.reduceEqDiff,xx,fd6,m6,↓out16_eq,ca,cf,v1,v2,v3,v4,x1,x2,x3,x4,c1,c2,c3,c4,c5,c6,o1,o7,eh,u1,u2,w1,w2,u1',u2',ee,ee',zab,H.oo]
end Go.Proofs.S44.L
