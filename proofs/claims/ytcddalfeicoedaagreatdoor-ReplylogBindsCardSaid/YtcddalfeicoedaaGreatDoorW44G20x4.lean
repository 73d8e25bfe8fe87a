/-
  Chapter 44: heads are sealed. No condition.
-/
import Derived.Test.YtcddalfeicoedaaGreatDoorW44G19x4
set_option linter.all false
open Nat renaming exists_eq_add_of_le'->wA,add_sub_cancel->wB,le_refl->wC
namespace Go.Proofs.S44.L
open Go Go.Ev Go.Proofs Go.Proofs.S44
open Go.Proofs.S44.H (strsAV zaa zaj Sml GlK GlR zal zbk nsI zak zem zint zat encB zaw zae dig inp)
open Go.Proofs.S44.M (lf zde Dg dgL dgL_length All16 Sd sB pkAV grw)
variable {gl :Gl} {n:Nat}
def CV (lo hi:Int):Prop:=0<=lo/\lo<=hi/\hi<=1099511627776
instance (lo hi:Int):Decidable (CV lo hi):=by unfold CV;infer_instance
theorem z10 (h:1<=n)(lo hi:Int):call gl tab n 59 [.agg [i64 lo,i64 hi]] []=some (.bool (decide (CV lo hi)),[],[]):=by
 obtain⟨d,rfl⟩:=wA h
 rw[zaf (fd:=fd59) rfl]
 by_cases h1:0<=lo
 . by_cases h2:lo<=hi
   . by_cases h3:hi<=1099511627776
     . rw[decide_eq_true (show CV lo hi from⟨h1,h2,h3⟩)];simp(disch:=apply zq;omega) only[go_sem,simprocAttr,↓Nat.reduceEqDiff,xx,fd59,m59]
     . rw[decide_eq_false (fun h:CV lo hi=>h3 h.2.2)];simp(disch:=apply zq;omega) only[go_sem,simprocAttr,↓Nat.reduceEqDiff,xx,fd59,m59]
   . rw[decide_eq_false (fun h:CV lo hi=>h2 h.2.1)];simp(disch:=apply zq;omega) only[go_sem,simprocAttr,↓Nat.reduceEqDiff,xx,fd59,m59]
 . rw[decide_eq_false (fun h:CV lo hi=>h1 h.1)];simp(disch:=apply zq;omega) only[go_sem,simprocAttr,↓Nat.reduceEqDiff,xx,fd59,m59]
abbrev sHd :Sh:=.st [.sc,.sc,.ar 16 .sc,.st [.sc,.sc],.sc,.ar 16 .sc]
def hds (l:List Hd):List AV:=l.map hdAV
theorem zhi (l:List Hd):(hds l).length=l.length:=by simp[hds]
def hdat (l:List Hd)(i:Nat):Hd:=l.getD i ⟨0,0,[],0,0,0,[]⟩
theorem z0j {l:List Hd}{i:Nat}(h:i<l.length):(hds l)[i]? =some (hdAV (hdat l i)):=by simp[hds,hdat,h]
theorem qap (l:List Hd)(x:Hd):hds l++[hdAV x]=hds (l++[x]):=by simp[hds]
theorem zhj {l:List Hd}{i:Nat}(h:i<l.length):hdat l i∈l:=by
 rw[show hdat l i=l[i] by simp[hdat,h]];exact List.getElem_mem h
abbrev zB :List UInt8:=List.replicate 16 0
abbrev hd0 (s:Int)(k:Nat)(root:Dg)(lo hi:Int):Hd:=⟨s,k,root,lo,hi,0,zB⟩
section
variable {s z lo hi:Int} {f f2 f3:Bool} {sh sh2 sh3:Sh} {l:List Rv} {t:List Dg} {hs:List Hd} {k:Ky} {root:Dg}
theorem zyr [Nonempty (GlK gl)](h:16<=n)(hk:VK k)(hs0:0<=s/\s<64)(hp:k.p=1000+s)(hc:CV lo hi)(hr:root.length=16)(ct:∀n,14<=n->call gl tab n 60 [pkAV z f2 sh2 t] []=some (.tup [bAV root,i64 0],[],[]))(hl:l.length<=60000)
  (h3:hs=[]\/sh3=sHd) (hhl:hs.length<=60000) (hh:∀x∈hs,HdOk x) (hlo:hs=[]\/(hdat hs (hs.length-1)).lo<=lo) :
  call gl tab n 18 [ldAV s f sh l z f2 sh2 t f3 sh3 (hds hs),ky k,.agg [i64 lo,i64 hi]] [] =
   some (.tup [ldAV s f sh l z f2 sh2 t false sHd (hds (hs++[hdS k (hd0 s l.length root lo hi)])),hdAV (hdS k (hd0 s l.length root lo hi)),i64 0],[],[]):=by
 obtain⟨d,rfl⟩:=wA h
 have c1:=@S44.valid_at gl (d+15) (by omega) k (by have:=hk.k;omega)
 rw[decide_eq_true hk]at c1
 have c2:=@z10 gl (d+15) (by omega) lo hi
 rw[decide_eq_true hc]at c2
 have c3:=ct (d+15) (by omega)
 unfold CV at hc
 have hok:HdOk (hd0 s l.length root lo hi):=⟨zbo (show R64 s by unfold R64;omega) (zbo (show R64 (l.length:Int) by unfold R64;omega) (zbo (show R64 lo by unfold R64;omega) (zbo (show R64 hi by unfold R64;omega) (zbo (show R64 0 by unfold R64;omega) zgu (by simp)) (by simp)) (by simp)) (by simp)) (by simp),hr,by simp⟩
 have c4:=@qeu gl (d+15) _ (by omega) k hk.ok _ hok
 have hb:(k.p != 1000+s)=false:=by rw[hp];exact bne_self_eq_false _
 have c5:=@z6m gl (d+15) (by omega) f3 sh3 (hds hs) (by
  rcases h3 with rfl|rfl
  . exact .inl rfl
  . exact .inr rfl)
 have hL:=zb8 l
 have hLh:=zhi hs
 have ok2:=z0k hk.ok hok
 have v1:=b16 hr
 have w1:=H.bytes_all root
 have v2:(zac (hdS k (hd0 s l.length root lo hi)).sgn).length=16:=b16 ok2.s
 have w2:=H.bytes_all (hdS k (hd0 s l.length root lo hi)).sgn
 have hA:=qap hs (hdS k (hd0 s l.length root lo hi))
 rw[<-hA]
 have e0:hdAV (hd0 s l.length root lo hi)= .agg [i64 s,i64 l.length,bAV root,.agg [i64 lo,i64 hi],i64 0,.agg H.out16l]:=rfl
 have e1:hdAV (hdS k (hd0 s l.length root lo hi))= .agg [i64 s,i64 l.length,bAV root,.agg [i64 lo,i64 hi],i64 k.s,.agg (zac (hdS k (hd0 s l.length root lo hi)).sgn)]:=rfl
 rw[e1]at c4 ⊢
 rw[e0]at c4
 generalize (hdS k (hd0 s l.length root lo hi)).sgn=sg at *
 clear ok2 hok hA e1 e0
 have hLim:hs.length+1<=LIM:=by unfold LIM;omega
 have hLim0:0+1<=LIM:=by unfold LIM;omega
 have hLim1:0<=LIM:=by unfold LIM;omega
 rw[zaf (fd:=fd18) rfl]
 by_cases hn:hs=[]
 . subst hn
   have hI:hds []=[]:=rfl
   rw[hI]at c5
   simp(maxSteps:=1000000) (disch:=apply zq;omega) only[go_sem,simprocAttr,↓Nat.reduceEqDiff,xx,fd18,m18,↓out16_eq,c1,c2,c3,c4,c5,hb,hL,hI,List.length_nil,v1,w1,v2,w2,hLim0,hLim1,H.oo]
 . have hp0:hs.length≠0:=fun e=>hn (List.length_eq_zero_iff.1 e)
   have hlo:=hlo.resolve_left hn
   have h3:=h3.resolve_left hn
   subst h3
   have hx:=z0j (l:=hs) (i:=hs.length-1) (by omega)
   have ok3:=hh _ (zhj (show hs.length-1<hs.length by omega))
   have v3:=b16 ok3.r
   have v4:=b16 ok3.s
   have w3:=H.bytes_all (hdat hs (hs.length-1)).root
   have w4:=H.bytes_all (hdat hs (hs.length-1)).sgn
   generalize hdat hs (hs.length-1)=y at *
   clear ok3 hh
   obtain⟨m,hm⟩:∃m,hs.length=m+1:=⟨hs.length-1,by omega⟩
   rw[hm]at hx hLh hLim
   rw[wB]at hx
   simp(maxSteps:=1000000) (disch:=apply zq;omega) only[go_sem,simprocAttr,↓Nat.reduceEqDiff,xx,fd18,m18,↓out16_eq,c1,c2,c3,c4,c5,hb,hL,hLh,hx,v1,w1,v2,w2,v3,v4,w3,w4,hLim,wB,H.oo]
   rw[List.take_of_length_le (by rw[List.length_append,hLh];exact wC _)]
end
end Go.Proofs.S44.L
namespace Go.Proofs.S44.L
open Go Go.Ev Go.Proofs Go.Proofs.S44
open Go.Proofs.S44.H (strsAV zaa zaj Sml GlK GlR zal zbk nsI zak zem zint zat encB zaw zae dig inp)
open Go.Proofs.S44.M (lf zde Dg dgL dgL_length All16 Sd sB pkAV grw)
variable {gl :Gl} {n:Nat}
deriving instance DecidableEq for Hd
abbrev kH :Ek:=.st [.it,.it,.ar 16 .it,.st [.it,.it],.it,.ar 16 .it]
theorem eqIt (a b:Int):eqAV .it (i64 a) (i64 b)=some (decide (a=b)):=by
 simp[eqAV]
 exact Bool.eq_iff_iff.2 (by simp)
theorem eqPe (a b c d:Int):eqAV (.st [.it,.it]) (.agg [i64 a,i64 b]) (.agg [i64 c,i64 d])=some (decide (a=c/\b=d)):=by
 by_cases h1:a=c
 . by_cases h2:b=d
   . simp[eqAV,zjl,h1,h2]
   . simp[eqAV,zjl,h1,h2]
 . simp[eqAV,zjl,h1]
theorem eqHd {x y:Hd}(hx:HdOk x)(hy:HdOk y):eqAV kH (hdAV x) (hdAV y)=some (decide (x=y)):=by
 have r:=eqB hx.r hy.r
 have s:=eqB hx.s hy.s
 obtain⟨a1,a2,a3,a4,a5,a6,a7⟩:=x
 obtain⟨b1,b2,b3,b4,b5,b6,b7⟩:=y
 simp only at r s
 rw[eqAV]
 simp only[zjl,eqIt,eqPe,r,s,Option.bind_some,Hd.mk.injEq]
 by_cases h1:a1=b1<;>by_cases h2:a2=b2<;>by_cases h3:a3=b3<;>by_cases h4:a4=b4<;>by_cases h5:a5=b5<;>by_cases h6:a6=b6<;>by_cases h7:a7=b7<;>simp[h1,h2,h3,h4,h5,h6,h7]
def L115 :MC:=match m115 with| .seq _ (.seq (.seq _ (.block _ (.loop _ b))) _)=>b|_=>.skip
def S115 (f:Bool)(sh:Sh)(l:List Hd)(x:Hd)(i:Nat):St:=⟨[.set 8 (i64 i),.set 7 (i64 l.length),.set 3 (.ptr 3 []),.set 0 (.lst f sh (hds l))],[(3,.fix sHd (hdAV x))]⟩
theorem z4i (h:1<=n)(f:Bool){l:List Hd}{x:Hd}(hx:HdOk x)(hl:l.length<=60000)(ok:∀y∈l,HdOk y) :
  ∃r:Int,call gl tab n 115 [.lst f sHd (hds l),hdAV x] []=some (i64 r,[],[])/\(0<=r↔x∈l)/\-1<=r/\r<=60000:=by
 obtain⟨d,rfl⟩:=wA h
 have hL:=zhi l
 have u1:=b16 hx.r
 have u2:=b16 hx.s
 have w1:=H.bytes_all x.root
 have w2:=H.bytes_all x.sgn
 have hs:∀i,i<l.length->hdat l i≠x->zbm [.slot 0,.slot 3,.slot 7,.slot 8,.key 3] (evC gl (call gl tab d) L115 (S115 f sHd l x i))=some (S115 f sHd l x (i+1)):=fun i hi hp=>by
  have hy:=z0j hi
  have e:=eqHd hx (ok _ (zhj hi))
  rw[decide_eq_false fun e=>hp e.symm]at e
  have oy:=ok _ (zhj hi)
  have v1:=oy.r
  have v2:=oy.s
  have x1:=hx.r
  have x2:=hx.s
  have w3:=H.bytes_all (hdat l i).root
  have w4:=H.bytes_all (hdat l i).sgn
  clear oy
  generalize hdat l i=y at *
  simp(disch:=apply zq;omega) only[go_sem,simprocAttr,↓Nat.reduceEqDiff,xx,L115,m115,S115,hL,hy,e,v1,v2,x1,x2,w1,w2,w3,w4,zab]
 have hf:∀i,i<l.length->¬hdat l i≠x->out1 4 (evC gl (call gl tab d) L115 (S115 f sHd l x i))=some (.ret,i64 i):=fun i hi hp=>by
  have hy:=z0j hi
  have e:=eqHd hx (ok _ (zhj hi))
  rw[decide_eq_true (Classical.not_not.1 hp).symm]at e
  have oy:=ok _ (zhj hi)
  have v1:=oy.r
  have v2:=oy.s
  have x1:=hx.r
  have x2:=hx.s
  have w3:=H.bytes_all (hdat l i).root
  have w4:=H.bytes_all (hdat l i).sgn
  clear oy
  generalize hdat l i=y at *
  simp(disch:=apply zq;omega) only[go_sem,simprocAttr,↓Nat.reduceEqDiff,xx,L115,m115,S115,hL,hy,e,v1,v2,x1,x2,w1,w2,w3,w4,zab]
 rcases zc9 (fun i=>hdat l i≠x) l.length with ha|⟨q,hq,hb',he⟩
 . refine⟨-1,?_,⟨fun h=>by omega,fun h=> ?_⟩,by omega,by omega⟩
   . have hs2:=fun i hi=>hs i hi (ha i hi)
     simp only[L115,m115]at hs2
     rw[zaf (fd:=zrj) rfl]
     simp(disch:=apply zq;omega) only[go_sem,simprocAttr,↓Nat.reduceEqDiff,xx,zrj,m115,hL,u1,u2,w1,w2]
     rw[zam (S115 f sHd l x) l.length (by unfold LF;omega)]
     . simp(disch:=apply zq;omega) only[go_sem,simprocAttr,↓Nat.reduceEqDiff,xx,S115,hL]
     . simp(disch:=apply zq;omega) only[go_sem,simprocAttr,↓Nat.reduceEqDiff,xx,S115,hL]
     . exact hs2
     . simp(disch:=apply zq;omega) only[go_sem,simprocAttr,↓Nat.reduceEqDiff,xx,S115,hL]
   . obtain⟨i,hi,rfl⟩:=List.getElem_of_mem h
     exact absurd (by simp[hdat,hi]) (ha i hi)
 . refine⟨q,?_,⟨fun _=> ?_,fun _=>by omega⟩,by omega,by omega⟩
   . obtain⟨st,hst,hg⟩:=zeu (hf q hq he)
     have hs2:=fun i (hi:i<q)=>hs i (by omega) (hb' i hi)
     simp only[L115,m115]at hs2 hst
     rw[zaf (fd:=zrj) rfl]
     simp(disch:=apply zq;omega) only[go_sem,simprocAttr,↓Nat.reduceEqDiff,xx,zrj,m115,hL,u1,u2,w1,w2]
     rw[zam (S115 f sHd l x) q (by unfold LF;omega),hst]
     . simp(disch:=apply zq;omega) only[go_sem,simprocAttr,↓Nat.reduceEqDiff,xx,hg]
     . simp(disch:=apply zq;omega) only[go_sem,simprocAttr,↓Nat.reduceEqDiff,xx,S115,hL]
     . exact hs2
     . rw[hst];rfl
   . rw[<-Classical.not_not.1 he];exact zhj hq
theorem qbi (h:2<=n)(f:Bool){sh:Sh}{l:List Hd}{x:Hd}(hx:HdOk x)(h3:l=[]\/sh=sHd)(hl:l.length<=60000)(ok:∀y∈l,HdOk y) :
  call gl tab n 66 [.lst f sh (hds l),hdAV x] []=some (.bool (decide (x∈l)),[],[]):=by
 obtain⟨d,rfl⟩:=wA h
 have u1:=b16 hx.r
 have u2:=b16 hx.s
 have w1:=H.bytes_all x.root
 have w2:=H.bytes_all x.sgn
 have hL:=zhi l
 rcases h3 with rfl|rfl
 . have hI:hds []=[]:=rfl
   have c:call gl tab (d+1) 115 [.lst f sh [],hdAV x] []=some (i64 (-1),[],[]):=by
    rw[zaf (fd:=zrj) rfl]
    simp(disch:=apply zq;omega) only[go_sem,simprocAttr,↓Nat.reduceEqDiff,xx,zrj,m115,u1,u2,w1,w2]
    rw[zam (fun i=>(⟨[.set 8 (i64 i),.set 7 (i64 0),.set 3 (.ptr 3 []),.set 0 (.lst f sh [])],[(3,.fix sHd (hdAV x))]⟩:St)) 0 (by unfold LF;omega)]
    . simp(disch:=apply zq;omega) only[go_sem,simprocAttr,↓Nat.reduceEqDiff,xx]
    . simp(disch:=apply zq;omega) only[go_sem,simprocAttr,↓Nat.reduceEqDiff,xx]
    . intro i hi;omega
    . simp(disch:=apply zq;omega) only[go_sem,simprocAttr,↓Nat.reduceEqDiff,xx]
   rw[decide_eq_false (by simp)]
   rw[zaf (fd:=fd66) rfl]
   simp(disch:=apply zq;omega) only[go_sem,simprocAttr,↓Nat.reduceEqDiff,xx,fd66,m66,hI,c,u1,u2,w1,w2]
 . obtain⟨r,c,hr,r1,r2⟩:=@z4i gl (d+1) (by omega) f l x hx hl ok
   rw[zaf (fd:=fd66) rfl]
   by_cases hm:x∈l
   . rw[decide_eq_true hm]
     have:=hr.2 hm
     simp(disch:=apply zq;omega) only[go_sem,simprocAttr,↓Nat.reduceEqDiff,xx,fd66,m66,c,u1,u2,w1,w2]
   . rw[decide_eq_false hm]
     have:¬0<=r:=fun h=>hm (hr.1 h)
     simp(disch:=apply zq;omega) only[go_sem,simprocAttr,↓Nat.reduceEqDiff,xx,fd66,m66,c,u1,u2,w1,w2]
end Go.Proofs.S44.L
namespace Go.Proofs.S44.L
open Go Go.Ev Go.Proofs Go.Proofs.S44
open Go.Proofs.S44.H (strsAV zaa zaj Sml GlK GlR zal zbk nsI zak zem zint zat encB zaw zae dig inp)
open Go.Proofs.S44.M (lf zde Dg dgL dgL_length All16 Sd sB pkAV grw)
variable {gl :Gl} {n:Nat}
section
variable {s z:Int} {f f2 f3:Bool} {sh sh2 sh3:Sh} {l:List Rv} {t:List Dg} {hs:List Hd}
theorem z6v {l:List Rv}(ok:∀x∈l,RvOk gl x):All16 (fs l):=by
 intro y hy
 simp only[fs,List.mem_map]at hy
 obtain⟨x,hx,rfl⟩:=hy
 exact(ok x hx).f
theorem zua [Nonempty (GlK gl)](hn:1001<=n)(h2:Sr l sh)(hl:l.length<=800)(ok:∀x∈l,RvOk gl x)(h3:hs=[]\/sh3=sHd)(hhl:hs.length<=60000)(hh:∀y∈hs,HdOk y)
  {h:Hd} (hx:h∈hs) {k i:Nat} (hk:h.size=k) (hkl:k<=l.length) (hi:i<k) :
  call gl tab n 21 [ldAV s f sh l z f2 sh2 t f3 sh3 (hds hs),i64 i,hdAV h] [] =
   some (.tup [.agg [rvAV (rat l i),hdAV h,.lst false sB (dgL (Mk.incl M.nd M.em (fs (l.take k)) i))],i64 0],[],[]):=by
 obtain⟨d,rfl⟩:=wA hn
 have o:=hh h hx
 have c1:=@qbi gl (d+1000) (by omega) f3 sh3 hs h o h3 hhl hh
 rw[decide_eq_true hx]at c1
 have c2:=@zq5 gl (d+1000) (by omega) s z f f2 f3 sh sh2 sh3 l t (hds hs) h2 (by omega) ok k hkl
 have hlt:(l.take k).length=k:=by rw[List.length_take];omega
 have c3:=M.inclusion_ok (gl:=gl) (n:=d+1000) (l:=fs (l.take k)) (f:=false) (sh:=sB) (i:=i) (by omega) (z6v fun x hx=>ok x (List.mem_of_mem_take hx)) (by rw[zb1];omega) (by rw[zb1];omega) (.inr rfl)
 rw[<-hk]at c2
 have hL:=zb8 l
 have hLh:=zhi hs
 obtain rfl:sh=sRe:=by
  rcases h2 with rfl|rfl
  . simp at hkl;omega
  . rfl
 have hr:=zt2 (l:=l) (i:=i) (by omega)
 have q1:=(ok _ (zza (show i<l.length by omega))).sh
 have u1:=b16 o.r
 have u2:=b16 o.s
 have w1:=H.bytes_all h.root
 have w2:=H.bytes_all h.sgn
 generalize Mk.incl M.nd M.em (fs (l.take k)) i=p at *
 have lp:=dgL_length p
 have tp:List.take p.length (dgL p)=dgL p:=List.take_of_length_le (by rw[lp];exact wC _)
 generalize rat l i=x at *
 rw[zaf (fd:=fd21) rfl]
 simp(maxSteps:=1000000) (disch:=apply zq;omega) only[go_sem,simprocAttr,↓Nat.reduceEqDiff,xx,fd21,m21,↓out16_eq,c1,c2,c3,hL,hLh,hr,q1,u1,u2,w1,w2,lp,tp,H.oo]
end
end Go.Proofs.S44.L
namespace Go.Proofs.S44.L
open Go Go.Ev Go.Proofs Go.Proofs.S44
open Go.Proofs.S44.H (strsAV zaa zaj Sml GlK GlR zal zbk nsI zak zem zint zat encB zaw zae dig inp)
open Go.Proofs.S44.M (lf zde Dg dgL dgL_length All16 Sd sB pkAV grw)
variable {gl :Gl} {n:Nat}
theorem pc1 :Mk.pcn 1=1:=by rw[Mk.pcn_two];simp[Mk.pcn_0]
theorem grw1 (g:Dg):grw 0 [] g=[g]:=by simp[M.grw,M.bk]
theorem rt1 (g:Dg):Mk.rt M.nd M.em [g]=g:=by rw[Mk.rt];rfl
theorem qjq (g:Dg):Mk.incl M.nd M.em [g] 0=[]:=by rw[Mk.incl];rfl
theorem top1 [Nonempty (GlK gl)][Nonempty (M.GlB gl)](h:14<=n){f:Bool}{g:Dg}(hg:g.length=16):call gl tab n 60 [pkAV 1 f sB [g]] []=some (.tup [bAV g,i64 0],[],[]):=by
 have c:=M.top_ok (gl:=gl) (n:=n) (z:=1) (f:=f) (t:=[g]) h (by simp) (by intro y hy;simp at hy;subst hy;exact hg) (by simp) (by omega) ⟨by omega,by omega,pc1.symm⟩
 rw[show M.topV [g]=g from rfl]at c
 exact c
def L53 :MC:=match m53 with| .seq _ (.seq _ (.seq (.seq _ (.block _ (.loop _ b))) _))=>b|_=>.skip
def S53 (f f':Bool)(l:List Dg)(i:Nat):St:=⟨[.set 13 (i64 i),.set 12 (i64 l.length),.set 1 (.lst f' sB (dgL l)),.set 0 (.lst f sB (dgL l))],[]⟩
theorem qfa (h:1<=n)(f f':Bool){l:List Dg}(ha:All16 l)(hl:l.length<=60000):call gl tab n 53 [.lst f sB (dgL l),.lst f' sB (dgL l)] []=some (.bool true,[],[]):=by
 obtain⟨d,rfl⟩:=wA h
 have hL:=dgL_length l
 have hs:∀i,i<l.length->zbm [.slot 0,.slot 1,.slot 12,.slot 13] (evC gl (call gl tab d) L53 (S53 f f' l i))=some (S53 f f' l (i+1)):=fun i hi=>by
  have hx:=M.dgL_at hi
  have g16:=ha.at hi
  have e:=eqB g16 g16
  rw[decide_eq_true rfl]at e
  have w:=H.bytes_all (M.dgA l i)
  generalize M.dgA l i=y at *
  simp(disch:=apply zq;omega) only[go_sem,simprocAttr,↓Nat.reduceEqDiff,xx,L53,m53,S53,hL,hx,e,g16,w,zab]
 simp only[L53,m53]at hs
 rw[zaf (fd:=fd53) rfl]
 simp(disch:=apply zq;omega) only[go_sem,simprocAttr,↓Nat.reduceEqDiff,xx,fd53,m53,hL,bne_self_eq_false]
 rw[zam (S53 f f' l) l.length (by unfold LF;omega)]
 . simp(disch:=apply zq;omega) only[go_sem,simprocAttr,↓Nat.reduceEqDiff,xx,S53,hL]
 . simp(disch:=apply zq;omega) only[go_sem,simprocAttr,↓Nat.reduceEqDiff,xx,S53,hL]
 . exact hs
 . simp(disch:=apply zq;omega) only[go_sem,simprocAttr,↓Nat.reduceEqDiff,xx,S53,hL]
def L15 :MC:=match m15 with| .seq _ (.seq _ (.seq _ (.seq (.seq _ (.block _ (.loop _ b))) _)))=>b|_=>.skip
def L15b :MC:=match m15 with| .seq _ (.seq _ (.seq _ (.seq _ (.seq _ (.seq _ (.seq (.seq _ (.block _ (.loop _ b))) _))))))=>b|_=>.skip
abbrev pk1 (g:Dg):Nat->AV
 | 0=>.agg [i64 0,.lst true .sc []]
 | _=>.agg [i64 1,.lst false sB (dgL [g])]
def S15 (f:Bool)(x:Rv)(ld:AV)(i:Nat):St:=⟨[.set 23 (i64 i),.set 22 (i64 1),.set 21 (.lst f sRe (rvs [x])),.set 3 (.ptr 3 []),.set 1 (.ptr 1 [])],[(3,.fix (.st [.sc,.sc]) (pk1 x.f i)),(1,.fix sLd ld)]⟩
def S15b (f:Bool)(x:Rv)(y:Hd)(ld:AV)(i:Nat):St:=⟨[.set 70 (i64 i),.set 69 (i64 1),.set 68 (.lst f sHd (hds [y])),.set 6 (.lst false sB (dgL [x.f])),.set 1 (.ptr 1 [])],[(1,.fix sLd ld)]⟩
theorem zya [Nonempty (GlK gl)][Nonempty (M.GlB gl)](h:20<=n){s:Int}(hs:0<=s/\s<64){f f2 f3:Bool}{x:Rv}(hx:RvOk gl x)(e1:x.site=s)(e2:x.seq=0){y:Hd}(hy:HdOk y)(y1:y.site=s)(y2:y.size=1)(y3:y.root=x.f) :
  call gl tab n 15 [ldAV s f sRe [x] 1 f2 sB [x.f] f3 sHd (hds [y])] []=some (.bool true,[],[]):=by
 obtain⟨d,rfl⟩:=wA h
 have c0:=@site_at gl (d+19) (by omega) s
 rw[decide_eq_true hs]at c0
 have h1:=hx.sh
 have h2:=hx.l (d+19) (by omega)
 have g16:=hx.f
 have a1:All16 [x.f]:=by intro z hz;simp at hz;subst hz;exact g16
 have c1:=@M.append_ok gl (d+19) _ _ (by omega) 0 true .sc [] x.f g16 (by simp) (by intro z hz;simp at hz) (.inl rfl) (by omega) ⟨by omega,by omega,Mk.pcn_0.symm⟩
 rw[grw1]at c1
 have e0:(((0+1:Nat)):Int)=1:=rfl
 have e00:(((0:Nat)):Int)=0:=rfl
 rw[e0]at c1
 replace c1:call gl tab (d+19) 52 [.agg [i64 0,.lst true .sc []],bAV x.f] []=some (.tup [.agg [i64 1,.lst false sB (dgL [x.f])],i64 0],[],[]):=c1
 have p0:pk1 x.f 0= .agg [i64 0,.lst true .sc []]:=rfl
 have p1:pk1 x.f 1= .agg [i64 1,.lst false sB (dgL [x.f])]:=rfl
 have p2:pk1 x.f (0+1)= .agg [i64 1,.lst false sB (dgL [x.f])]:=rfl
 have c2:=@qfa gl (d+19) (by omega) false f2 _ a1 (by simp)
 have c3:=@zq5 gl (d+19) (by omega) s 1 f f2 f3 sRe sB sHd [x] [x.f] (hds [y]) (.inr rfl) (by simp) (fun z hz=>by simp at hz;subst hz;exact hx) 1 (by simp)
 rw[show fs ([x].take 1)=[x.f]from rfl]at c3
 have c4:=M.root_at (gl:=gl) 1 (n:=d+19) [x.f] false sB (by simp) (by omega) a1 (by simp) (.inr rfl)
 rw[rt1]at c4
 have eI:∀z,dgL [z]=[.agg (zac z)]:=fun z=>rfl
 have c4':=c4
 rw[eI]at c4'
 have eR:rvs [x]=[.agg (i64 s::i64 0::x.r)]:=by rw[<-e1,<-e2];rfl
 have eH:hds [y]=[.agg [i64 s,i64 1,bAV x.f,.agg [i64 y.lo,i64 y.hi],i64 y.ser,bAV y.sgn]]:=by rw[<-y1,<-y2,<-y3];rfl
 replace c3:call gl tab (d+19) 54 [.agg [i64 s,.lst f sRe (rvs [x]),.agg [i64 1,.lst f2 sB (dgL [x.f])],.lst f3 sHd (hds [y])],i64 1] []=some (.lst false sB (dgL [x.f]),[],[]):=c3
 rw[eR,eH]at c3
 have eV:rvAV x= .agg (i64 s::i64 0::x.r):=by rw[<-e1,<-e2]
 rw[eV]at h2
 have u1:=b16 g16
 have w1:=H.bytes_all x.f
 have u2:=b16 hy.s
 have w2:=H.bytes_all y.sgn
 have q:=eqB g16 g16
 rw[decide_eq_true rfl]at q
 have st1:∀i,i<1->zbm [.slot 1,.slot 3,.slot 21,.slot 22,.slot 23,.key 1,.key 3] (evC gl (call gl tab (d+19)) L15 (S15 f x (ldAV s f sRe [x] 1 f2 sB [x.f] f3 sHd (hds [y])) i))=some (S15 f x (ldAV s f sRe [x] 1 f2 sB [x.f] f3 sHd (hds [y])) (i+1)):=fun i hi=>by
  obtain rfl:i=0:=by omega
  rw[S15,S15,eR,p0,p2]
  simp(disch:=apply zq;omega) only[go_sem,simprocAttr,↓Nat.reduceEqDiff,xx,L15,m15,↓out16_eq,eR,h1,h2,c1,bne_self_eq_false,u1,w1,H.oo]
 have st2:∀i,i<1->zbm [.slot 1,.slot 6,.slot 68,.slot 69,.slot 70,.key 1] (evC gl (call gl tab (d+19)) L15b (S15b f3 x y (ldAV s f sRe [x] 1 f2 sB [x.f] f3 sHd (hds [y])) i))=some (S15b f3 x y (ldAV s f sRe [x] 1 f2 sB [x.f] f3 sHd (hds [y])) (i+1)):=fun i hi=>by
  obtain rfl:i=0:=by omega
  rw[S15b,S15b,eH]
  simp(disch:=apply zq;omega) only[go_sem,simprocAttr,↓Nat.reduceEqDiff,xx,L15b,m15,↓out16_eq,eH,eI,c4',q,bne_self_eq_false,u1,w1,u2,w2,zab,g16,H.oo]
 simp only[L15,L15b,m15,↓out16_eq]at st1 st2
 rw[zaf (fd:=fd15) rfl]
 simp(disch:=apply zq;omega) only[go_sem,simprocAttr,↓Nat.reduceEqDiff,xx,fd15,m15,↓out16_eq,c0,eR,H.oo]
 rw[zam (S15 f x (ldAV s f sRe [x] 1 f2 sB [x.f] f3 sHd (hds [y]))) 1 (by unfold LF;omega)]
 rotate_left
 . rw[S15,eR,p0];simp(disch:=apply zq;omega) only[go_sem,simprocAttr,↓Nat.reduceEqDiff,xx,eR]
 . exact st1
 . rw[S15,eR,p1];simp(disch:=apply zq;omega) only[go_sem,simprocAttr,↓Nat.reduceEqDiff,xx,eR]
 rw[S15,eR,p1]
 simp(disch:=apply zq;omega) only[go_sem,simprocAttr,↓Nat.reduceEqDiff,xx,eR,c2,c3,bne_self_eq_false,eH]
 rw[zam (S15b f3 x y (ldAV s f sRe [x] 1 f2 sB [x.f] f3 sHd (hds [y]))) 1 (by unfold LF;omega)]
 rotate_left
 . rw[S15b,eH];simp(disch:=apply zq;omega) only[go_sem,simprocAttr,↓Nat.reduceEqDiff,xx,eR]
 . exact st2
 . rw[S15b,eH];simp(disch:=apply zq;omega) only[go_sem,simprocAttr,↓Nat.reduceEqDiff,xx,eR]
 rw[S15b,eH]
 simp(disch:=apply zq;omega) only[go_sem,simprocAttr,↓Nat.reduceEqDiff,xx,eR]
end Go.Proofs.S44.L
