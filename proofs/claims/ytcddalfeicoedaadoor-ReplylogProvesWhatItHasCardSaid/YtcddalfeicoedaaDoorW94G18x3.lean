/-
  Chapter 44: shown replies are checked. No condition.
-/
import Derived.Test.YtcddalfeicoedaaDoorW94G17x3
set_option linter.all false
open Nat renaming exists_eq_add_of_le'->wA,add_sub_cancel->wB,le_refl->wC
open List renaming take_of_length_le->wD,getElem_of_mem->wE
open Int renaming eq_ofNat_of_zero_le->wF,toNat_natCast->wG
namespace Go.Proofs.S94.L
open Go Go.Ev Go.Proofs Go.Proofs.S94
open Go.Proofs.S94.H (strsAV zaa zaj Sml GlK GlR zam zbh nsI zak zdk zint zaw encB zaz zaf dig inp)
open Go.Proofs.S94.M (lf zcx Dg dgL dgL_length All16 Sd sB pkAV grw)
variable {gl :Gl} {n:Nat}
def fE :List Int->Int
 | []=>0
 | a::l=>if a=0 then fE l else a
theorem z6m :∀{l:List Int},(∀x∈l,x=0)->fE l=0
 | [],_=>rfl
 | a::l,h=>by rw[fE,if_pos (h a (by simp))];exact z6m fun x hx=>h x (by simp[hx])
theorem qdz :∀{l:List Int} {q:Nat} (hq:q<l.length),(∀j (hj:j<q),l[j]'(by omega)=0)->l[q]≠0->fE l=l[q]
 | a::l,0,_,_,h=>by
   have h:a≠0:=h
   rw[fE,if_neg h];rfl
 | a::l,q+1,hq,h0,h=>by
   have h1:a=0:=h0 0 (by omega)
   rw[fE,if_pos h1]
   exact qdz (l:=l) (q:=q) (by simpa using hq) (fun j hj=>h0 (j+1) (by omega)) h
def L68 :MC:=match m31 with| .seq _ (.seq (.seq _ (.block _ (.loop _ b))) _)=>b|_=>.skip
def S68 (f:Bool)(l:List Int)(i:Nat):St:=⟨[.set 7 (i64 i),.set 6 (i64 l.length),.set 5 (.lst f .sc (nsI l))],[]⟩
theorem zpg (h:1<=n)(f:Bool){l:List Int}(hl:l.length<=1000):call gl tab n 31 [.lst f .sc (nsI l)] []=some (i64 (fE l),[],[]):=by
 obtain⟨d,rfl⟩:=wA h
 have hL:=zak l
 have hs:∀i (hi:i<l.length),l[i]=0->zb1 [.slot 5,.slot 6,.slot 7] (evC gl (call gl tab d) L68 (S68 f l i))=some (S68 f l (i+1)):=fun i hi hp=>by
  have hx:=zdk hi
  rw[hp]at hx
  simp(disch:=apply zq;omega) only[go_sem,simprocAttr,↓Nat.reduceEqDiff,xx,L68,m31,S68,hL,hx]
 have hf:∀i (hi:i<l.length),l[i]≠0->out1 2 (evC gl (call gl tab d) L68 (S68 f l i))=some (.ret,i64 l[i]):=fun i hi hp=>by
  have hx:=zdk hi
  have hb:(l[i] != 0)=true:=by rw[bne_iff_ne];exact hp
  generalize l[i]=v at *
  simp(disch:=apply zq;omega) only[go_sem,simprocAttr,↓Nat.reduceEqDiff,xx,L68,m31,S68,hL,hx,hb]
 rw[zae (fd:=fd31) rfl]
 rcases zce (fun i=>∀hi:i<l.length,l[i]=0) l.length with ha|⟨q,hq,hb',he⟩
 . rw[z6m fun x hx=>by
    obtain⟨i,hi,rfl⟩:=wE hx
    exact ha i hi hi]
   have hs2:=fun i hi=>hs i hi (ha i hi hi)
   simp only[L68,m31]at hs2
   simp(disch:=apply zq;omega) only[go_sem,simprocAttr,↓Nat.reduceEqDiff,xx,fd31,m31,hL]
   rw[zao (S68 f l) l.length (by unfold LF;omega)]
   . simp(disch:=apply zq;omega) only[go_sem,simprocAttr,↓Nat.reduceEqDiff,xx,S68,hL]
   . simp(disch:=apply zq;omega) only[go_sem,simprocAttr,↓Nat.reduceEqDiff,xx,S68,hL]
   . exact hs2
   . simp(disch:=apply zq;omega) only[go_sem,simprocAttr,↓Nat.reduceEqDiff,xx,S68,hL]
 . have he:l[q]≠0:=fun e=>he fun _=>e
   rw[qdz hq (fun j hj=>hb' j hj (by omega)) he]
   obtain⟨st,hst,hg⟩:=zds (hf q hq he)
   have hs2:=fun i (hi:i<q)=>hs i (by omega) (hb' i hi (by omega))
   simp only[L68,m31]at hs2 hst
   simp(disch:=apply zq;omega) only[go_sem,simprocAttr,↓Nat.reduceEqDiff,xx,fd31,m31,hL]
   rw[zao (S68 f l) q (by unfold LF;omega),hst]
   . simp(disch:=apply zq;omega) only[go_sem,simprocAttr,↓Nat.reduceEqDiff,xx,hg]
   . simp(disch:=apply zq;omega) only[go_sem,simprocAttr,↓Nat.reduceEqDiff,xx,S68,hL]
   . exact hs2
   . rw[hst];rfl
def mE (b:Bool)(e:Int):Int:=if b then 0 else e
theorem zll (h:1<=n)(b:Bool)(e:Int):call gl tab n 32 [.bool b,i64 e] []=some (i64 (mE b e),[],[]):=by
 obtain⟨d,rfl⟩:=wA h
 rw[zae (fd:=fd32) rfl]
 cases b
 . simp(disch:=apply zq;omega) only[go_sem,simprocAttr,↓Nat.reduceEqDiff,xx,fd32,m32];rfl
 . simp(disch:=apply zq;omega) only[go_sem,simprocAttr,↓Nat.reduceEqDiff,xx,fd32,m32];rfl
def ckI (leaf:Dg)(i N:Int)(p:List Dg)(root:Dg):Bool :=
 decide (¬(N<1\/N>1099511627776\/i<0\/i>=N)/\p.length=Mk.dep i.toNat N.toNat/\Mk.cl M.nd M.z16 leaf i.toNat N.toNat p=root)
theorem qei [Nonempty (GlK gl)](h:60<=n){leaf root:Dg}{i N:Int}{f:Bool}{sh:Sh}{p:List Dg}(hf:leaf.length=16)(hr:root.length=16)(ha:All16 p)(hl:p.length<=1000000)(hs:Sd p sh sB) :
  call gl tab n 34 [bAV leaf,i64 i,i64 N,.lst f sh (dgL p),bAV root] []=some (.bool (ckI leaf i N p root),[],[]):=by
 by_cases hb:N<1\/N>1099511627776\/i<0\/i>=N
 . rw[ckI,decide_eq_false (fun h=>h.1 hb)]
   exact M.checkI_bad (by omega) hb hf hr
 . obtain⟨i,rfl⟩:=wF (show 0<=i by omega)
   obtain⟨N,rfl⟩:=wF (show 0<=N by omega)
   have:=M.checkI_ok (gl:=gl) h (i:=i) (N:=N) (f:=f) (by omega) (by omega) (by omega) hf hr ha hl hs
   rw[this,ckI]
   congr 3
   rw[Bool.eq_iff_iff,decide_eq_true_eq,decide_eq_true_eq,wG,wG]
   exact⟨fun h=>⟨hb,h⟩,fun h=>h.2⟩
abbrev hdA (x:Hd):AV:=.agg [i64 x.site,i64 x.size,bAV x.root,.agg [i64 x.lo,i64 x.hi],i64 x.ser,bAV x.sgn]
def ckS (ring:List Ky)(x:Rv)(h:Hd)(p:List Dg):Int:=fE [mE (x.site==h.site) 1,hdC ring h,mE (ckI x.f x.seq h.size p h.root) 3]
theorem zog [Nonempty (GlK gl)](hn:61<=n){fr:Bool}{m:Sh}{ring:List Ky}(hm:Mk ring m)(hv:VR ring){x:Rv}(hx:RvOk gl x){h:Hd}(hh:HdOk h){f:Bool}{sh:Sh}{p:List Dg}(ha:All16 p)(hl:p.length<=1000000)(hs:Sd p sh sB) :
  call gl tab n 11 [.lst fr m (ks ring),.agg [rvAV x,hdAV h,.lst f sh (dgL p)]] []=some (i64 (ckS ring x h p),[],[]):=by
 obtain⟨d,rfl⟩:=wA hn
 have h1:=hx.sh
 have h2:=hx.l (d+60) (by omega)
 have u1:=b16 hh.r
 have u2:=b16 hh.s
 have w1:=H.bytes_all h.root
 have w2:=H.bytes_all h.sgn
 have q:=H.bytes_all x.f
 have q2:=b16 hx.f
 have c1:=@zll gl (d+60) (by omega) (x.site==h.site) 1
 have c2:=zq7 (gl:=gl) (n:=d+60) (f:=fr) (by omega) hm hv h hh
 have c3:=qei (gl:=gl) (n:=d+60) (leaf:=x.f) (root:=h.root) (i:=x.seq) (N:=h.size) (f:=f) (by omega) hx.f hh.r ha hl hs
 have c4:=@zll gl (d+60) (by omega) (ckI x.f x.seq h.size p h.root) 3
 have c5:=@zpg gl (d+60) (by omega) false [mE (x.site==h.site) 1,hdC ring h,mE (ckI x.f x.seq h.size p h.root) 3] (by simp)
 unfold ckS
 generalize fE [mE (x.site==h.site) 1,hdC ring h,mE (ckI x.f x.seq h.size p h.root) 3]=r at *
 have e5:nsI [mE (x.site==h.site) 1,hdC ring h,mE (ckI x.f x.seq h.size p h.root) 3]=[i64 (mE (x.site==h.site) 1),i64 (hdC ring h),i64 (mE (ckI x.f x.seq h.size p h.root) 3)]:=rfl
 rw[e5]at c5
 clear e5
 generalize mE (x.site==h.site) 1=r1 at *
 generalize hdC ring h=r2 at *
 generalize mE (ckI x.f x.seq h.size p h.root) 3=r3 at *
 rw[zae (fd:=fd11) rfl]
 simp(disch:=apply zq;omega) only[go_sem,simprocAttr,↓Nat.reduceEqDiff,xx,fd11,m11,↓out16_eq,h1,h2,u1,u2,w1,w2,q,q2,c1,c2,c3,c4,c5,H.oo]
end Go.Proofs.S94.L
namespace Go.Proofs.S94.L
open Go Go.Ev Go.Proofs Go.Proofs.S94
open Go.Proofs.S94.H (strsAV zaa zaj Sml GlK GlR zam zbh nsI zak zdk zint zaw encB zaz zaf dig inp)
open Go.Proofs.S94.M (lf zcx Dg dgL dgL_length All16 Sd sB pkAV grw)
variable {gl :Gl} {n:Nat}
def CV (lo hi:Int):Prop:=0<=lo/\lo<=hi/\hi<=1099511627776
instance (lo hi:Int):Decidable (CV lo hi):=by unfold CV;infer_instance
theorem z1z (h:1<=n)(lo hi:Int):call gl tab n 24 [.agg [i64 lo,i64 hi]] []=some (.bool (decide (CV lo hi)),[],[]):=by
 obtain⟨d,rfl⟩:=wA h
 rw[zae (fd:=fd24) rfl]
 by_cases h1:0<=lo
 . by_cases h2:lo<=hi
   . by_cases h3:hi<=1099511627776
     . rw[decide_eq_true (show CV lo hi from⟨h1,h2,h3⟩)];simp(disch:=apply zq;omega) only[go_sem,simprocAttr,↓Nat.reduceEqDiff,xx,fd24,m24]
     . rw[decide_eq_false (fun h:CV lo hi=>h3 h.2.2)];simp(disch:=apply zq;omega) only[go_sem,simprocAttr,↓Nat.reduceEqDiff,xx,fd24,m24]
   . rw[decide_eq_false (fun h:CV lo hi=>h2 h.2.1)];simp(disch:=apply zq;omega) only[go_sem,simprocAttr,↓Nat.reduceEqDiff,xx,fd24,m24]
 . rw[decide_eq_false (fun h:CV lo hi=>h1 h.1)];simp(disch:=apply zq;omega) only[go_sem,simprocAttr,↓Nat.reduceEqDiff,xx,fd24,m24]
abbrev sHd :Sh:=.st [.sc,.sc,.ar 16 .sc,.st [.sc,.sc],.sc,.ar 16 .sc]
def hds (l:List Hd):List AV:=l.map hdAV
theorem zb2 (l:List Hd):(hds l).length=l.length:=by simp[hds]
def hdat (l:List Hd)(i:Nat):Hd:=l.getD i ⟨0,0,[],0,0,0,[]⟩
theorem zgr {l:List Hd}{i:Nat}(h:i<l.length):(hds l)[i]? =some (hdAV (hdat l i)):=by simp[hds,hdat,h]
theorem z9i (l:List Hd)(x:Hd):hds l++[hdAV x]=hds (l++[x]):=by simp[hds]
theorem zcr {l:List Hd}{i:Nat}(h:i<l.length):hdat l i∈l:=by
 rw[show hdat l i=l[i] by simp[hdat,h]];exact List.getElem_mem h
abbrev zB :List UInt8:=List.replicate 16 0
abbrev hd0 (s:Int)(k:Nat)(root:Dg)(lo hi:Int):Hd:=⟨s,k,root,lo,hi,0,zB⟩
section
variable {s z lo hi:Int} {f f2 f3:Bool} {sh sh2 sh3:Sh} {l:List Rv} {t:List Dg} {hs:List Hd} {k:Ky} {root:Dg}
theorem zyn [Nonempty (GlK gl)](h:16<=n)(hk:VK k)(hs0:0<=s/\s<64)(hp:k.p=1000+s)(hc:CV lo hi)(hr:root.length=16)(ct:∀n,14<=n->call gl tab n 25 [pkAV z f2 sh2 t] []=some (.tup [bAV root,i64 0],[],[]))(hl:l.length<=60000)
  (h3:hs=[]\/sh3=sHd) (hhl:hs.length<=60000) (hh:∀x∈hs,HdOk x) (hlo:hs=[]\/(hdat hs (hs.length-1)).lo<=lo) :
  call gl tab n 8 [ldAV s f sh l z f2 sh2 t f3 sh3 (hds hs),ky k,.agg [i64 lo,i64 hi]] [] =
   some (.tup [ldAV s f sh l z f2 sh2 t false sHd (hds (hs++[hdS k (hd0 s l.length root lo hi)])),hdAV (hdS k (hd0 s l.length root lo hi)),i64 0],[],[]):=by
 obtain⟨d,rfl⟩:=wA h
 have c1:=@S94.valid_at gl (d+15) (by omega) k (by have:=hk.k;omega)
 rw[decide_eq_true hk]at c1
 have c2:=@z1z gl (d+15) (by omega) lo hi
 rw[decide_eq_true hc]at c2
 have c3:=ct (d+15) (by omega)
 unfold CV at hc
 have hok:HdOk (hd0 s l.length root lo hi):=⟨zbn (show R64 s by unfold R64;omega) (zbn (show R64 (l.length:Int) by unfold R64;omega) (zbn (show R64 lo by unfold R64;omega) (zbn (show R64 hi by unfold R64;omega) (zbn (show R64 0 by unfold R64;omega) zgv (by simp)) (by simp)) (by simp)) (by simp)) (by simp),hr,by simp⟩
 have c4:=@qdm gl (d+15) _ (by omega) k hk.ok _ hok
 have hb:(k.p != 1000+s)=false:=by rw[hp];exact bne_self_eq_false _
 have c5:=@z5p gl (d+15) (by omega) f3 sh3 (hds hs) (by
  rcases h3 with rfl|rfl
  . exact .inl rfl
  . exact .inr rfl)
 have hL:=zbl l
 have hLh:=zb2 hs
 have ok2:=z0m hk.ok hok
 have v1:=b16 hr
 have w1:=H.bytes_all root
 have v2:(zab (hdS k (hd0 s l.length root lo hi)).sgn).length=16:=b16 ok2.s
 have w2:=H.bytes_all (hdS k (hd0 s l.length root lo hi)).sgn
 have hA:=z9i hs (hdS k (hd0 s l.length root lo hi))
 rw[<-hA]
 have e0:hdAV (hd0 s l.length root lo hi)= .agg [i64 s,i64 l.length,bAV root,.agg [i64 lo,i64 hi],i64 0,.agg H.out16l]:=rfl
 have e1:hdAV (hdS k (hd0 s l.length root lo hi))= .agg [i64 s,i64 l.length,bAV root,.agg [i64 lo,i64 hi],i64 k.s,.agg (zab (hdS k (hd0 s l.length root lo hi)).sgn)]:=rfl
 rw[e1]at c4 ⊢
 rw[e0]at c4
 generalize (hdS k (hd0 s l.length root lo hi)).sgn=sg at *
 clear ok2 hok hA e1 e0
 have hLim:hs.length+1<=LIM:=by unfold LIM;omega
 have hLim0:0+1<=LIM:=by unfold LIM;omega
 have hLim1:0<=LIM:=by unfold LIM;omega
 rw[zae (fd:=fd8) rfl]
 by_cases hn:hs=[]
 . subst hn
   have hI:hds []=[]:=rfl
   rw[hI]at c5
   simp(maxSteps:=1000000) (disch:=apply zq;omega) only[go_sem,simprocAttr,↓Nat.reduceEqDiff,xx,fd8,m8,↓out16_eq,c1,c2,c3,c4,c5,hb,hL,hI,List.length_nil,v1,w1,v2,w2,hLim0,hLim1,H.oo]
 . have hp0:hs.length≠0:=fun e=>hn (List.length_eq_zero_iff.1 e)
   have hlo:=hlo.resolve_left hn
   have h3:=h3.resolve_left hn
   subst h3
   have hx:=zgr (l:=hs) (i:=hs.length-1) (by omega)
   have ok3:=hh _ (zcr (show hs.length-1<hs.length by omega))
   have v3:=b16 ok3.r
   have v4:=b16 ok3.s
   have w3:=H.bytes_all (hdat hs (hs.length-1)).root
   have w4:=H.bytes_all (hdat hs (hs.length-1)).sgn
   generalize hdat hs (hs.length-1)=y at *
   clear ok3 hh
   obtain⟨m,hm⟩:∃m,hs.length=m+1:=⟨hs.length-1,by omega⟩
   rw[hm]at hx hLh hLim
   rw[wB]at hx
   simp(maxSteps:=1000000) (disch:=apply zq;omega) only[go_sem,simprocAttr,↓Nat.reduceEqDiff,xx,fd8,m8,↓out16_eq,c1,c2,c3,c4,c5,hb,hL,hLh,hx,v1,w1,v2,w2,v3,v4,w3,w4,hLim,wB,H.oo]
   rw[wD (by rw[List.length_append,hLh];exact wC _)]
end
end Go.Proofs.S94.L
namespace Go.Proofs.S94.L
open Go Go.Ev Go.Proofs Go.Proofs.S94
open Go.Proofs.S94.H (strsAV zaa zaj Sml GlK GlR zam zbh nsI zak zdk zint zaw encB zaz zaf dig inp)
open Go.Proofs.S94.M (lf zcx Dg dgL dgL_length All16 Sd sB pkAV grw)
variable {gl :Gl} {n:Nat}
deriving instance DecidableEq for Hd
abbrev kH :Ek:=.st [.it,.it,.ar 16 .it,.st [.it,.it],.it,.ar 16 .it]
theorem eqIt (a b:Int):eqAV .it (i64 a) (i64 b)=some (decide (a=b)):=by
 simp[eqAV]
 exact Bool.eq_iff_iff.2 (by simp)
theorem eqPe (a b c d:Int):eqAV (.st [.it,.it]) (.agg [i64 a,i64 b]) (.agg [i64 c,i64 d])=some (decide (a=c/\b=d)):=by
 by_cases h1:a=c
 . by_cases h2:b=d
   . simp[eqAV,zjc,h1,h2]
   . simp[eqAV,zjc,h1,h2]
 . simp[eqAV,zjc,h1]
theorem eqHd {x y:Hd}(hx:HdOk x)(hy:HdOk y):eqAV kH (hdAV x) (hdAV y)=some (decide (x=y)):=by
 have r:=eqB hx.r hy.r
 have s:=eqB hx.s hy.s
 obtain⟨a1,a2,a3,a4,a5,a6,a7⟩:=x
 obtain⟨b1,b2,b3,b4,b5,b6,b7⟩:=y
 simp only at r s
 rw[eqAV]
 simp only[zjc,eqIt,eqPe,r,s,Option.bind_some,Hd.mk.injEq]
 by_cases h1:a1=b1<;>by_cases h2:a2=b2<;>by_cases h3:a3=b3<;>by_cases h4:a4=b4<;>by_cases h5:a5=b5<;>by_cases h6:a6=b6<;>by_cases h7:a7=b7<;>simp[h1,h2,h3,h4,h5,h6,h7]
def L115 :MC:=match m51 with| .seq _ (.seq (.seq _ (.block _ (.loop _ b))) _)=>b|_=>.skip
def S115 (f:Bool)(sh:Sh)(l:List Hd)(x:Hd)(i:Nat):St:=⟨[.set 8 (i64 i),.set 7 (i64 l.length),.set 3 (.ptr 3 []),.set 0 (.lst f sh (hds l))],[(3,.fix sHd (hdAV x))]⟩
theorem z4m (h:1<=n)(f:Bool){l:List Hd}{x:Hd}(hx:HdOk x)(hl:l.length<=60000)(ok:∀y∈l,HdOk y) :
  ∃r:Int,call gl tab n 51 [.lst f sHd (hds l),hdAV x] []=some (i64 r,[],[])/\(0<=r↔x∈l)/\-1<=r/\r<=60000:=by
 obtain⟨d,rfl⟩:=wA h
 have hL:=zb2 l
 have u1:=b16 hx.r
 have u2:=b16 hx.s
 have w1:=H.bytes_all x.root
 have w2:=H.bytes_all x.sgn
 have hs:∀i,i<l.length->hdat l i≠x->zb1 [.slot 0,.slot 3,.slot 7,.slot 8,.key 3] (evC gl (call gl tab d) L115 (S115 f sHd l x i))=some (S115 f sHd l x (i+1)):=fun i hi hp=>by
  have hy:=zgr hi
  have e:=eqHd hx (ok _ (zcr hi))
  rw[decide_eq_false fun e=>hp e.symm]at e
  have oy:=ok _ (zcr hi)
  have v1:=oy.r
  have v2:=oy.s
  have x1:=hx.r
  have x2:=hx.s
  have w3:=H.bytes_all (hdat l i).root
  have w4:=H.bytes_all (hdat l i).sgn
  clear oy
  generalize hdat l i=y at *
  simp(disch:=apply zq;omega) only[go_sem,simprocAttr,↓Nat.reduceEqDiff,xx,L115,m51,S115,hL,hy,e,v1,v2,x1,x2,w1,w2,w3,w4,zac]
 have hf:∀i,i<l.length->¬hdat l i≠x->out1 4 (evC gl (call gl tab d) L115 (S115 f sHd l x i))=some (.ret,i64 i):=fun i hi hp=>by
  have hy:=zgr hi
  have e:=eqHd hx (ok _ (zcr hi))
  rw[decide_eq_true (Classical.not_not.1 hp).symm]at e
  have oy:=ok _ (zcr hi)
  have v1:=oy.r
  have v2:=oy.s
  have x1:=hx.r
  have x2:=hx.s
  have w3:=H.bytes_all (hdat l i).root
  have w4:=H.bytes_all (hdat l i).sgn
  clear oy
  generalize hdat l i=y at *
  simp(disch:=apply zq;omega) only[go_sem,simprocAttr,↓Nat.reduceEqDiff,xx,L115,m51,S115,hL,hy,e,v1,v2,x1,x2,w1,w2,w3,w4,zac]
 rcases zce (fun i=>hdat l i≠x) l.length with ha|⟨q,hq,hb',he⟩
 . refine⟨-1,?_,⟨fun h=>by omega,fun h=> ?_⟩,by omega,by omega⟩
   . have hs2:=fun i hi=>hs i hi (ha i hi)
     simp only[L115,m51]at hs2
     rw[zae (fd:=fd51) rfl]
     simp(disch:=apply zq;omega) only[go_sem,simprocAttr,↓Nat.reduceEqDiff,xx,fd51,m51,hL,u1,u2,w1,w2]
     rw[zao (S115 f sHd l x) l.length (by unfold LF;omega)]
     . simp(disch:=apply zq;omega) only[go_sem,simprocAttr,↓Nat.reduceEqDiff,xx,S115,hL]
     . simp(disch:=apply zq;omega) only[go_sem,simprocAttr,↓Nat.reduceEqDiff,xx,S115,hL]
     . exact hs2
     . simp(disch:=apply zq;omega) only[go_sem,simprocAttr,↓Nat.reduceEqDiff,xx,S115,hL]
   . obtain⟨i,hi,rfl⟩:=wE h
     exact absurd (by simp[hdat,hi]) (ha i hi)
 . refine⟨q,?_,⟨fun _=> ?_,fun _=>by omega⟩,by omega,by omega⟩
   . obtain⟨st,hst,hg⟩:=zds (hf q hq he)
     have hs2:=fun i (hi:i<q)=>hs i (by omega) (hb' i hi)
     simp only[L115,m51]at hs2 hst
     rw[zae (fd:=fd51) rfl]
     simp(disch:=apply zq;omega) only[go_sem,simprocAttr,↓Nat.reduceEqDiff,xx,fd51,m51,hL,u1,u2,w1,w2]
     rw[zao (S115 f sHd l x) q (by unfold LF;omega),hst]
     . simp(disch:=apply zq;omega) only[go_sem,simprocAttr,↓Nat.reduceEqDiff,xx,hg]
     . simp(disch:=apply zq;omega) only[go_sem,simprocAttr,↓Nat.reduceEqDiff,xx,S115,hL]
     . exact hs2
     . rw[hst];rfl
   . rw[<-Classical.not_not.1 he];exact zcr hq
theorem zti (h:2<=n)(f:Bool){sh:Sh}{l:List Hd}{x:Hd}(hx:HdOk x)(h3:l=[]\/sh=sHd)(hl:l.length<=60000)(ok:∀y∈l,HdOk y) :
  call gl tab n 28 [.lst f sh (hds l),hdAV x] []=some (.bool (decide (x∈l)),[],[]):=by
 obtain⟨d,rfl⟩:=wA h
 have u1:=b16 hx.r
 have u2:=b16 hx.s
 have w1:=H.bytes_all x.root
 have w2:=H.bytes_all x.sgn
 have hL:=zb2 l
 rcases h3 with rfl|rfl
 . have hI:hds []=[]:=rfl
   have c:call gl tab (d+1) 51 [.lst f sh [],hdAV x] []=some (i64 (-1),[],[]):=by
    rw[zae (fd:=fd51) rfl]
    simp(disch:=apply zq;omega) only[go_sem,simprocAttr,↓Nat.reduceEqDiff,xx,fd51,m51,u1,u2,w1,w2]
    rw[zao (fun i=>(⟨[.set 8 (i64 i),.set 7 (i64 0),.set 3 (.ptr 3 []),.set 0 (.lst f sh [])],[(3,.fix sHd (hdAV x))]⟩:St)) 0 (by unfold LF;omega)]
    . simp(disch:=apply zq;omega) only[go_sem,simprocAttr,↓Nat.reduceEqDiff,xx]
    . simp(disch:=apply zq;omega) only[go_sem,simprocAttr,↓Nat.reduceEqDiff,xx]
    . intro i hi;omega
    . simp(disch:=apply zq;omega) only[go_sem,simprocAttr,↓Nat.reduceEqDiff,xx]
   rw[decide_eq_false (by simp)]
   rw[zae (fd:=fd28) rfl]
   simp(disch:=apply zq;omega) only[go_sem,simprocAttr,↓Nat.reduceEqDiff,xx,fd28,m28,hI,c,u1,u2,w1,w2]
 . obtain⟨r,c,hr,r1,r2⟩:=@z4m gl (d+1) (by omega) f l x hx hl ok
   rw[zae (fd:=fd28) rfl]
   by_cases hm:x∈l
   . rw[decide_eq_true hm]
     have:=hr.2 hm
     simp(disch:=apply zq;omega) only[go_sem,simprocAttr,↓Nat.reduceEqDiff,xx,fd28,m28,c,u1,u2,w1,w2]
   . rw[decide_eq_false hm]
     have:¬0<=r:=fun h=>hm (hr.1 h)
     simp(disch:=apply zq;omega) only[go_sem,simprocAttr,↓Nat.reduceEqDiff,xx,fd28,m28,c,u1,u2,w1,w2]
end Go.Proofs.S94.L
namespace Go.Proofs.S94.L
open Go Go.Ev Go.Proofs Go.Proofs.S94
open Go.Proofs.S94.H (strsAV zaa zaj Sml GlK GlR zam zbh nsI zak zdk zint zaw encB zaz zaf dig inp)
open Go.Proofs.S94.M (lf zcx Dg dgL dgL_length All16 Sd sB pkAV grw)
variable {gl :Gl} {n:Nat}
section
variable {s z:Int} {f f2 f3:Bool} {sh sh2 sh3:Sh} {l:List Rv} {t:List Dg} {hs:List Hd}
theorem zgc {l:List Rv}(ok:∀x∈l,RvOk gl x):All16 (fs l):=by
 intro y hy
 simp only[fs,List.mem_map]at hy
 obtain⟨x,hx,rfl⟩:=hy
 exact(ok x hx).f
theorem zuf [Nonempty (GlK gl)](hn:1001<=n)(h2:Sr l sh)(hl:l.length<=800)(ok:∀x∈l,RvOk gl x)(h3:hs=[]\/sh3=sHd)(hhl:hs.length<=60000)(hh:∀y∈hs,HdOk y)
  {h:Hd} (hx:h∈hs) {k i:Nat} (hk:h.size=k) (hkl:k<=l.length) (hi:i<k) :
  call gl tab n 10 [ldAV s f sh l z f2 sh2 t f3 sh3 (hds hs),i64 i,hdAV h] [] =
   some (.tup [.agg [rvAV (rat l i),hdAV h,.lst false sB (dgL (Mk.incl M.nd M.em (fs (l.take k)) i))],i64 0],[],[]):=by
 obtain⟨d,rfl⟩:=wA hn
 have o:=hh h hx
 have c1:=@zti gl (d+1000) (by omega) f3 sh3 hs h o h3 hhl hh
 rw[decide_eq_true hx]at c1
 have c2:=@zih gl (d+1000) (by omega) s z f f2 f3 sh sh2 sh3 l t (hds hs) h2 (by omega) ok k hkl
 have hlt:(l.take k).length=k:=by rw[List.length_take];omega
 have c3:=M.inclusion_ok (gl:=gl) (n:=d+1000) (l:=fs (l.take k)) (f:=false) (sh:=sB) (i:=i) (by omega) (zgc fun x hx=>ok x (List.mem_of_mem_take hx)) (by rw[zas];omega) (by rw[zas];omega) (.inr rfl)
 rw[<-hk]at c2
 have hL:=zbl l
 have hLh:=zb2 hs
 obtain rfl:sh=sRe:=by
  rcases h2 with rfl|rfl
  . simp at hkl;omega
  . rfl
 have hr:=zmw (l:=l) (i:=i) (by omega)
 have q1:=(ok _ (zor (show i<l.length by omega))).sh
 have u1:=b16 o.r
 have u2:=b16 o.s
 have w1:=H.bytes_all h.root
 have w2:=H.bytes_all h.sgn
 generalize Mk.incl M.nd M.em (fs (l.take k)) i=p at *
 have lp:=dgL_length p
 have tp:List.take p.length (dgL p)=dgL p:=wD (by rw[lp];exact wC _)
 generalize rat l i=x at *
 rw[zae (fd:=fd10) rfl]
 simp(maxSteps:=1000000) (disch:=apply zq;omega) only[go_sem,simprocAttr,↓Nat.reduceEqDiff,xx,fd10,m10,↓out16_eq,c1,c2,c3,hL,hLh,hr,q1,u1,u2,w1,w2,lp,tp,H.oo]
end
end Go.Proofs.S94.L
