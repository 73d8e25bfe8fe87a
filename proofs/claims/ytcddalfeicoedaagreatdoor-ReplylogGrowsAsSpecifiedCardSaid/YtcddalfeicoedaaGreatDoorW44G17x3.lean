/-
  Chapter 44: leaves of a ledger, first errors. No condition.
-/
import Derived.Test.YtcddalfeicoedaaGreatDoorW44G16x3
set_option linter.all false
open List renaming take_of_length_le->wA,length_take->wB,mem_of_mem_take->wC,getElem_of_mem->wD,getElem_mem->wE
open Nat renaming exists_eq_add_of_le'->wF,add_sub_cancel->wG,le_refl->wH
open Int renaming eq_ofNat_of_zero_le->wI,toNat_natCast->wJ
namespace Go.Proofs.S44.L
open Go Go.Ev Go.Proofs Go.Proofs.S44
open Go.Proofs.S44.H (strsAV zaa zai Sml GlK GlR zam zbn nsI zal zint zau encB zaw zaf dig inp)
open Go.Proofs.S44.M (lf zcv Dg dgL dgL_length All16 Sd sB pkAV grw)
variable {gl :Gl} {n:Nat}
def fs (l:List Rv):List Dg:=l.map (·.f)
theorem zan (l:List Rv):(fs l).length=l.length:=by simp[fs]
def rat (l:List Rv)(i:Nat):Rv:=l.getD i ⟨0,0,[],[]⟩
theorem zhp {l:List Rv}{i:Nat}(h:i<l.length):(rvs l)[i]? =some (.agg (i64 (rat l i).site::i64 (rat l i).seq::(rat l i).r)):=by simp[rvs,rat,h]
theorem zfc {l:List Rv}{i:Nat}(h:i<l.length):rat l i∈l:=by
 rw[show rat l i=l[i] by simp[rat,h]];exact wE h
theorem ztj {l:List Rv}{i:Nat}(h:i<l.length):(fs l).take (i+1)=(fs l).take i++[(rat l i).f]:=by
 rw[List.take_succ_eq_append_getElem (by rw[zan];exact h)]
 simp[fs,rat,h]
theorem z3v (l:List Rv)(k:Nat):List.take k (rvs l)=rvs (l.take k):=by simp[rvs,List.map_take]
theorem zvt (a:List Dg)(x:Dg):dgL a++[.agg (zac x)]=dgL (a++[x]):=by simp[M.dgL]
def L54 :MC:=match m54 with| .seq _ (.seq _ (.seq (.seq _ (.block _ (.loop _ b))) _))=>b|_=>.skip
def S54 (f:Bool)(sh:Sh)(l:List Rv)(i:Nat):St:=⟨[.set 13 (i64 i),.set 12 (i64 l.length),.set 11 (.lst f sh (rvs l)),.set 5 (.sl 5005 [] 0 i)],[(5005,.grow (.ar 16 .sc) (dgL ((fs l).take i)))]⟩
theorem qdz {d:Nat}(hd:12<=d)(f:Bool){l:List Rv}(hl:l.length<=60000)(ok:∀x∈l,RvOk gl x)(i:Nat)(hi:i<l.length) :
  zbd [.own 5 5005 (.ar 16 .sc),.slot 11,.slot 12,.slot 13] (evC gl (call gl tab d) L54 (S54 f sRe l i))=some (S54 f sRe l (i+1)):=by
 have hx:=zhp hi
 have o:=ok _ (zfc hi)
 have h1:=o.sh
 have h2:=o.l d hd
 have q:=H.bytes_all (rat l i).f
 have q2:=b16 o.f
 have hL:=zaz l
 have lt:((fs l).take i).length=i:=by rw[wB,zan];omega
 have ld:=dgL_length ((fs l).take i)
 have ld2:=dgL_length ((fs l).take (i+1))
 rw[ztj hi]at ld2
 have hLim:i+1<=LIM:=by unfold LIM;omega
 rw[lt]at ld
 rw[S54,S54,ztj hi]
 generalize (fs l).take i=a at *
 generalize rat l i=y at *
 clear o
 simp(disch:=apply zq;omega) only[go_sem,simprocAttr,↓Nat.reduceEqDiff,xx,L54,m54,↓out16_eq,hx,hL,h1,h2,q,q2,ld,hLim,zvt,M.dgL_length,lt,H.oo,H.noImms_bytesAV]
theorem zl6 (h:13<=n){s z:Int}{f f2 f3:Bool}{sh sh2 sh3:Sh}{l:List Rv}{t:List Dg}{U:List AV}(hs:Sr l sh)(hl:l.length<=60000)(ok:∀x∈l,RvOk gl x){k:Nat}(hk:k<=l.length) :
  call gl tab n 54 [ldAV s f sh l z f2 sh2 t f3 sh3 U,i64 k] []=some (.lst false sB (dgL (fs (l.take k))),[],[]):=by
 obtain⟨d,rfl⟩:=wF h
 have hL:=zaz l
 have hz:=z82 (sh:=sh) (l:=rvs l) (k:=146) (by
  rcases hs with rfl|rfl
  . exact .inl rfl
  . exact .inr rfl)
 have hlt:(l.take k).length=k:=by rw[wB];omega
 have st:∀f' i,i<k->zbd [.own 5 5005 (.ar 16 .sc),.slot 11,.slot 12,.slot 13] (evC gl (call gl tab (d+12)) L54 (S54 f' sh (l.take k) i))=some (S54 f' sh (l.take k) (i+1)):=fun f' i hi=>by
  rcases hs with rfl|rfl
  . simp at hk;omega
  . exact @qdz gl (d+12) (by omega) f' (l.take k) (by omega) (fun x hx=>ok x (wC hx)) i (by omega)
 simp only[L54,m54,↓out16_eq]at st
 have hr:(rvs (l.take k)).length=k:=by rw[zaz,hlt]
 have e:=z3v l k
 have lf:=zan (l.take k)
 have tt:(fs (l.take k)).take k=fs (l.take k):=wA (by omega)
 have ta:List.take k (dgL (fs (l.take k)))=dgL (fs (l.take k)):=wA (by rw[M.dgL_length];omega)
 have ld:=dgL_length (fs (l.take k))
 rw[zad (fd:=fd54) rfl]
 simp(disch:=apply zq;omega) only[go_sem,simprocAttr,↓Nat.reduceEqDiff,xx,fd54,m54,↓out16_eq,hL,hz,e,hr,Nat.sub_zero,List.drop_zero,H.oo]
 rw[zag (S54 (f&&k==l.length) sh (l.take k)) k (by unfold LF;omega)]
 . rw[S54,hlt,tt];simp(disch:=apply zq;omega) only[go_sem,simprocAttr,↓Nat.reduceEqDiff,xx,hr,ld,ta,lf,hlt]
 . rw[S54,hlt,List.take_zero];simp(disch:=apply zq;omega) only[go_sem,simprocAttr,↓Nat.reduceEqDiff,xx,hr];rfl
 . exact st _
 . rw[S54,hlt,tt];simp(disch:=apply zq;omega) only[go_sem,simprocAttr,↓Nat.reduceEqDiff,xx,hr]
end Go.Proofs.S44.L
namespace Go.Proofs.S44.L
open Go Go.Ev Go.Proofs Go.Proofs.S44
open Go.Proofs.S44.H (strsAV zaa zai Sml GlK GlR zam zbn nsI zal zdq zint zau encB zaw zaf dig inp)
open Go.Proofs.S44.M (lf zcv Dg dgL dgL_length All16 Sd sB pkAV grw)
variable {gl :Gl} {n:Nat}
def fE :List Int->Int
 | []=>0
 | a::l=>if a=0 then fE l else a
theorem z8j :∀{l:List Int},(∀x∈l,x=0)->fE l=0
 | [],_=>rfl
 | a::l,h=>by rw[fE,if_pos (h a (by simp))];exact z8j fun x hx=>h x (by simp[hx])
theorem qf6 :∀{l:List Int} {q:Nat} (hq:q<l.length),(∀j (hj:j<q),l[j]'(by omega)=0)->l[q]≠0->fE l=l[q]
 | a::l,0,_,_,h=>by
   have h:a≠0:=h
   rw[fE,if_neg h];rfl
 | a::l,q+1,hq,h0,h=>by
   have h1:a=0:=h0 0 (by omega)
   rw[fE,if_pos h1]
   exact qf6 (l:=l) (q:=q) (by simpa using hq) (fun j hj=>h0 (j+1) (by omega)) h
def L68 :MC:=match m68 with| .seq _ (.seq (.seq _ (.block _ (.loop _ b))) _)=>b|_=>.skip
def S68 (f:Bool)(l:List Int)(i:Nat):St:=⟨[.set 7 (i64 i),.set 6 (i64 l.length),.set 5 (.lst f .sc (nsI l))],[]⟩
theorem z5p (h:1<=n)(f:Bool){l:List Int}(hl:l.length<=1000):call gl tab n 68 [.lst f .sc (nsI l)] []=some (i64 (fE l),[],[]):=by
 obtain⟨d,rfl⟩:=wF h
 have hL:=zal l
 have hs:∀i (hi:i<l.length),l[i]=0->zbd [.slot 5,.slot 6,.slot 7] (evC gl (call gl tab d) L68 (S68 f l i))=some (S68 f l (i+1)):=fun i hi hp=>by
  have hx:=zdq hi
  rw[hp]at hx
  simp(disch:=apply zq;omega) only[go_sem,simprocAttr,↓Nat.reduceEqDiff,xx,L68,m68,S68,hL,hx]
 have hf:∀i (hi:i<l.length),l[i]≠0->out1 2 (evC gl (call gl tab d) L68 (S68 f l i))=some (.ret,i64 l[i]):=fun i hi hp=>by
  have hx:=zdq hi
  have hb:(l[i] != 0)=true:=by rw[bne_iff_ne];exact hp
  generalize l[i]=v at *
  simp(disch:=apply zq;omega) only[go_sem,simprocAttr,↓Nat.reduceEqDiff,xx,L68,m68,S68,hL,hx,hb]
 rw[zad (fd:=fd68) rfl]
 rcases zbv (fun i=>∀hi:i<l.length,l[i]=0) l.length with ha|⟨q,hq,hb',he⟩
 . rw[z8j fun x hx=>by
    obtain⟨i,hi,rfl⟩:=wD hx
    exact ha i hi hi]
   have hs2:=fun i hi=>hs i hi (ha i hi hi)
   simp only[L68,m68]at hs2
   simp(disch:=apply zq;omega) only[go_sem,simprocAttr,↓Nat.reduceEqDiff,xx,fd68,m68,hL]
   rw[zag (S68 f l) l.length (by unfold LF;omega)]
   . simp(disch:=apply zq;omega) only[go_sem,simprocAttr,↓Nat.reduceEqDiff,xx,S68,hL]
   . simp(disch:=apply zq;omega) only[go_sem,simprocAttr,↓Nat.reduceEqDiff,xx,S68,hL]
   . exact hs2
   . simp(disch:=apply zq;omega) only[go_sem,simprocAttr,↓Nat.reduceEqDiff,xx,S68,hL]
 . have he:l[q]≠0:=fun e=>he fun _=>e
   rw[qf6 hq (fun j hj=>hb' j hj (by omega)) he]
   obtain⟨st,hst,hg⟩:=zcn (hf q hq he)
   have hs2:=fun i (hi:i<q)=>hs i (by omega) (hb' i hi (by omega))
   simp only[L68,m68]at hs2 hst
   simp(disch:=apply zq;omega) only[go_sem,simprocAttr,↓Nat.reduceEqDiff,xx,fd68,m68,hL]
   rw[zag (S68 f l) q (by unfold LF;omega),hst]
   . simp(disch:=apply zq;omega) only[go_sem,simprocAttr,↓Nat.reduceEqDiff,xx,hg]
   . simp(disch:=apply zq;omega) only[go_sem,simprocAttr,↓Nat.reduceEqDiff,xx,S68,hL]
   . exact hs2
   . rw[hst];rfl
def mE (b:Bool)(e:Int):Int:=if b then 0 else e
theorem z0e (h:1<=n)(b:Bool)(e:Int):call gl tab n 69 [.bool b,i64 e] []=some (i64 (mE b e),[],[]):=by
 obtain⟨d,rfl⟩:=wF h
 rw[zad (fd:=fd69) rfl]
 cases b
 . simp(disch:=apply zq;omega) only[go_sem,simprocAttr,↓Nat.reduceEqDiff,xx,fd69,m69];rfl
 . simp(disch:=apply zq;omega) only[go_sem,simprocAttr,↓Nat.reduceEqDiff,xx,fd69,m69];rfl
def ckI (leaf:Dg)(i N:Int)(p:List Dg)(root:Dg):Bool :=
 decide (¬(N<1\/N>1099511627776\/i<0\/i>=N)/\p.length=Mk.dep i.toNat N.toNat/\Mk.cl M.nd M.z16 leaf i.toNat N.toNat p=root)
theorem qgu [Nonempty (GlK gl)](h:60<=n){leaf root:Dg}{i N:Int}{f:Bool}{sh:Sh}{p:List Dg}(hf:leaf.length=16)(hr:root.length=16)(ha:All16 p)(hl:p.length<=1000000)(hs:Sd p sh sB) :
  call gl tab n 71 [bAV leaf,i64 i,i64 N,.lst f sh (dgL p),bAV root] []=some (.bool (ckI leaf i N p root),[],[]):=by
 by_cases hb:N<1\/N>1099511627776\/i<0\/i>=N
 . rw[ckI,decide_eq_false (fun h=>h.1 hb)]
   exact M.checkI_bad (by omega) hb hf hr
 . obtain⟨i,rfl⟩:=wI (show 0<=i by omega)
   obtain⟨N,rfl⟩:=wI (show 0<=N by omega)
   have:=M.checkI_ok (gl:=gl) h (i:=i) (N:=N) (f:=f) (by omega) (by omega) (by omega) hf hr ha hl hs
   rw[this,ckI]
   congr 3
   rw[Bool.eq_iff_iff,decide_eq_true_eq,decide_eq_true_eq,wJ,wJ]
   exact⟨fun h=>⟨hb,h⟩,fun h=>h.2⟩
abbrev hdA (x:Hd):AV:=.agg [i64 x.site,i64 x.size,bAV x.root,.agg [i64 x.lo,i64 x.hi],i64 x.ser,bAV x.sgn]
def ckS (ring:List Ky)(x:Rv)(h:Hd)(p:List Dg):Int:=fE [mE (x.site==h.site) 1,hdC ring h,mE (ckI x.f x.seq h.size p h.root) 3]
theorem zun [Nonempty (GlK gl)](hn:61<=n){fr:Bool}{m:Sh}{ring:List Ky}(hm:Mk ring m)(hv:VR ring){x:Rv}(hx:RvOk gl x){h:Hd}(hh:HdOk h){f:Bool}{sh:Sh}{p:List Dg}(ha:All16 p)(hl:p.length<=1000000)(hs:Sd p sh sB) :
  call gl tab n 22 [.lst fr m (ks ring),.agg [rvAV x,hdAV h,.lst f sh (dgL p)]] []=some (i64 (ckS ring x h p),[],[]):=by
 obtain⟨d,rfl⟩:=wF hn
 have h1:=hx.sh
 have h2:=hx.l (d+60) (by omega)
 have u1:=b16 hh.r
 have u2:=b16 hh.s
 have w1:=H.bytes_all h.root
 have w2:=H.bytes_all h.sgn
 have q:=H.bytes_all x.f
 have q2:=b16 hx.f
 have c1:=@z0e gl (d+60) (by omega) (x.site==h.site) 1
 have c2:=qfs (gl:=gl) (n:=d+60) (f:=fr) (by omega) hm hv h hh
 have c3:=qgu (gl:=gl) (n:=d+60) (leaf:=x.f) (root:=h.root) (i:=x.seq) (N:=h.size) (f:=f) (by omega) hx.f hh.r ha hl hs
 have c4:=@z0e gl (d+60) (by omega) (ckI x.f x.seq h.size p h.root) 3
 have c5:=@z5p gl (d+60) (by omega) false [mE (x.site==h.site) 1,hdC ring h,mE (ckI x.f x.seq h.size p h.root) 3] (by simp)
 unfold ckS
 generalize fE [mE (x.site==h.site) 1,hdC ring h,mE (ckI x.f x.seq h.size p h.root) 3]=r at *
 have e5:nsI [mE (x.site==h.site) 1,hdC ring h,mE (ckI x.f x.seq h.size p h.root) 3]=[i64 (mE (x.site==h.site) 1),i64 (hdC ring h),i64 (mE (ckI x.f x.seq h.size p h.root) 3)]:=rfl
 rw[e5]at c5
 clear e5
 generalize mE (x.site==h.site) 1=r1 at *
 generalize hdC ring h=r2 at *
 generalize mE (ckI x.f x.seq h.size p h.root) 3=r3 at *
 rw[zad (fd:=fd22) rfl]
 simp(disch:=apply zq;omega) only[go_sem,simprocAttr,↓Nat.reduceEqDiff,xx,fd22,m22,↓out16_eq,h1,h2,u1,u2,w1,w2,q,q2,c1,c2,c3,c4,c5,H.oo]
end Go.Proofs.S44.L
namespace Go.Proofs.S44.L
open Go Go.Ev Go.Proofs Go.Proofs.S44
open Go.Proofs.S44.H (strsAV zaa zai Sml GlK GlR zam zbn nsI zal zdq zint zau encB zaw zaf dig inp)
open Go.Proofs.S44.M (lf zcv Dg dgL dgL_length All16 Sd sB pkAV grw)
variable {gl :Gl} {n:Nat}
def CV (lo hi:Int):Prop:=0<=lo/\lo<=hi/\hi<=1099511627776
instance (lo hi:Int):Decidable (CV lo hi):=by unfold CV;infer_instance
theorem zmq (h:1<=n)(lo hi:Int):call gl tab n 59 [.agg [i64 lo,i64 hi]] []=some (.bool (decide (CV lo hi)),[],[]):=by
 obtain⟨d,rfl⟩:=wF h
 rw[zad (fd:=fd59) rfl]
 by_cases h1:0<=lo
 . by_cases h2:lo<=hi
   . by_cases h3:hi<=1099511627776
     . rw[decide_eq_true (show CV lo hi from⟨h1,h2,h3⟩)];simp(disch:=apply zq;omega) only[go_sem,simprocAttr,↓Nat.reduceEqDiff,xx,fd59,m59]
     . rw[decide_eq_false (fun h:CV lo hi=>h3 h.2.2)];simp(disch:=apply zq;omega) only[go_sem,simprocAttr,↓Nat.reduceEqDiff,xx,fd59,m59]
   . rw[decide_eq_false (fun h:CV lo hi=>h2 h.2.1)];simp(disch:=apply zq;omega) only[go_sem,simprocAttr,↓Nat.reduceEqDiff,xx,fd59,m59]
 . rw[decide_eq_false (fun h:CV lo hi=>h1 h.1)];simp(disch:=apply zq;omega) only[go_sem,simprocAttr,↓Nat.reduceEqDiff,xx,fd59,m59]
abbrev sHd :Sh:=.st [.sc,.sc,.ar 16 .sc,.st [.sc,.sc],.sc,.ar 16 .sc]
def hds (l:List Hd):List AV:=l.map hdAV
theorem zbf (l:List Hd):(hds l).length=l.length:=by simp[hds]
def hdat (l:List Hd)(i:Nat):Hd:=l.getD i ⟨0,0,[],0,0,0,[]⟩
theorem zeu {l:List Hd}{i:Nat}(h:i<l.length):(hds l)[i]? =some (hdAV (hdat l i)):=by simp[hds,hdat,h]
theorem z08 (l:List Hd)(x:Hd):hds l++[hdAV x]=hds (l++[x]):=by simp[hds]
theorem zco {l:List Hd}{i:Nat}(h:i<l.length):hdat l i∈l:=by
 rw[show hdat l i=l[i] by simp[hdat,h]];exact wE h
abbrev zB :List UInt8:=List.replicate 16 0
abbrev hd0 (s:Int)(k:Nat)(root:Dg)(lo hi:Int):Hd:=⟨s,k,root,lo,hi,0,zB⟩
section
variable {s z lo hi:Int} {f f2 f3:Bool} {sh sh2 sh3:Sh} {l:List Rv} {t:List Dg} {hs:List Hd} {k:Ky} {root:Dg}
theorem zzf [Nonempty (GlK gl)](h:16<=n)(hk:VK k)(hs0:0<=s/\s<64)(hp:k.p=1000+s)(hc:CV lo hi)(hr:root.length=16)(ct:∀n,14<=n->call gl tab n 60 [pkAV z f2 sh2 t] []=some (.tup [bAV root,i64 0],[],[]))(hl:l.length<=60000)
  (h3:hs=[]\/sh3=sHd) (hhl:hs.length<=60000) (hh:∀x∈hs,HdOk x) (hlo:hs=[]\/(hdat hs (hs.length-1)).lo<=lo) :
  call gl tab n 18 [ldAV s f sh l z f2 sh2 t f3 sh3 (hds hs),ky k,.agg [i64 lo,i64 hi]] [] =
   some (.tup [ldAV s f sh l z f2 sh2 t false sHd (hds (hs++[hdS k (hd0 s l.length root lo hi)])),hdAV (hdS k (hd0 s l.length root lo hi)),i64 0],[],[]):=by
 obtain⟨d,rfl⟩:=wF h
 have c1:=@S44.valid_at gl (d+15) (by omega) k (by have:=hk.k;omega)
 rw[decide_eq_true hk]at c1
 have c2:=@zmq gl (d+15) (by omega) lo hi
 rw[decide_eq_true hc]at c2
 have c3:=ct (d+15) (by omega)
 unfold CV at hc
 have hok:HdOk (hd0 s l.length root lo hi):=⟨za3 (show R64 s by unfold R64;omega) (za3 (show R64 (l.length:Int) by unfold R64;omega) (za3 (show R64 lo by unfold R64;omega) (za3 (show R64 hi by unfold R64;omega) (za3 (show R64 0 by unfold R64;omega) zev (by simp)) (by simp)) (by simp)) (by simp)) (by simp),hr,by simp⟩
 have c4:=@qfr gl (d+15) _ (by omega) k hk.ok _ hok
 have hb:(k.p != 1000+s)=false:=by rw[hp];exact bne_self_eq_false _
 have c5:=@z7h gl (d+15) (by omega) f3 sh3 (hds hs) (by
  rcases h3 with rfl|rfl
  . exact .inl rfl
  . exact .inr rfl)
 have hL:=zaz l
 have hLh:=zbf hs
 have ok2:=zvd hk.ok hok
 have v1:=b16 hr
 have w1:=H.bytes_all root
 have v2:(zac (hdS k (hd0 s l.length root lo hi)).sgn).length=16:=b16 ok2.s
 have w2:=H.bytes_all (hdS k (hd0 s l.length root lo hi)).sgn
 have hA:=z08 hs (hdS k (hd0 s l.length root lo hi))
 rw[<-hA]
 have e0:hdAV (hd0 s l.length root lo hi)= .agg [i64 s,i64 l.length,bAV root,.agg [i64 lo,i64 hi],i64 0,.agg H.out16l]:=rfl
 have e1:hdAV (hdS k (hd0 s l.length root lo hi))= .agg [i64 s,i64 l.length,bAV root,.agg [i64 lo,i64 hi],i64 k.s,.agg (zac (hdS k (hd0 s l.length root lo hi)).sgn)]:=rfl
 rw[e1]at c4 ⊢
 rw[e0]at c4
 generalize (hdS k (hd0 s l.length root lo hi)).sgn=sg at *
 clear ok2 hok hA e1 e0
 have hLim:hs.length+1<=LIM:=by unfold LIM;omega
 have hLim0:0+1<=LIM:=by unfold LIM;omega
 have hLim1:0<=LIM:=by unfold LIM;omega
 rw[zad (fd:=fd18) rfl]
 by_cases hn:hs=[]
 . subst hn
   have hI:hds []=[]:=rfl
   rw[hI]at c5
   simp(maxSteps:=1000000) (disch:=apply zq;omega) only[go_sem,simprocAttr,↓Nat.reduceEqDiff,xx,fd18,m18,↓out16_eq,c1,c2,c3,c4,c5,hb,hL,hI,List.length_nil,v1,w1,v2,w2,hLim0,hLim1,H.oo]
 . have hp0:hs.length≠0:=fun e=>hn (List.length_eq_zero_iff.1 e)
   have hlo:=hlo.resolve_left hn
   have h3:=h3.resolve_left hn
   subst h3
   have hx:=zeu (l:=hs) (i:=hs.length-1) (by omega)
   have ok3:=hh _ (zco (show hs.length-1<hs.length by omega))
   have v3:=b16 ok3.r
   have v4:=b16 ok3.s
   have w3:=H.bytes_all (hdat hs (hs.length-1)).root
   have w4:=H.bytes_all (hdat hs (hs.length-1)).sgn
   generalize hdat hs (hs.length-1)=y at *
   clear ok3 hh
   obtain⟨m,hm⟩:∃m,hs.length=m+1:=⟨hs.length-1,by omega⟩
   rw[hm]at hx hLh hLim
   rw[wG]at hx
   simp(maxSteps:=1000000) (disch:=apply zq;omega) only[go_sem,simprocAttr,↓Nat.reduceEqDiff,xx,fd18,m18,↓out16_eq,c1,c2,c3,c4,c5,hb,hL,hLh,hx,v1,w1,v2,w2,v3,v4,w3,w4,hLim,wG,H.oo]
   rw[wA (by rw[List.length_append,hLh];exact wH _)]
end
end Go.Proofs.S44.L
namespace Go.Proofs.S44.L
open Go Go.Ev Go.Proofs Go.Proofs.S44
open Go.Proofs.S44.H (strsAV zaa zai Sml GlK GlR zam zbn nsI zal zdq zint zau encB zaw zaf dig inp)
open Go.Proofs.S44.M (lf zcv Dg dgL dgL_length All16 Sd sB pkAV grw)
variable {gl :Gl} {n:Nat}
deriving instance DecidableEq for Hd
abbrev kH :Ek:=.st [.it,.it,.ar 16 .it,.st [.it,.it],.it,.ar 16 .it]
theorem eqIt (a b:Int):eqAV .it (i64 a) (i64 b)=some (decide (a=b)):=by
 simp[eqAV]
 exact Bool.eq_iff_iff.2 (by simp)
theorem eqPe (a b c d:Int):eqAV (.st [.it,.it]) (.agg [i64 a,i64 b]) (.agg [i64 c,i64 d])=some (decide (a=c/\b=d)):=by
 by_cases h1:a=c
 . by_cases h2:b=d
   . simp[eqAV,zh2,h1,h2]
   . simp[eqAV,zh2,h1,h2]
 . simp[eqAV,zh2,h1]
theorem eqHd {x y:Hd}(hx:HdOk x)(hy:HdOk y):eqAV kH (hdAV x) (hdAV y)=some (decide (x=y)):=by
 have r:=eqB hx.r hy.r
 have s:=eqB hx.s hy.s
 obtain⟨a1,a2,a3,a4,a5,a6,a7⟩:=x
 obtain⟨b1,b2,b3,b4,b5,b6,b7⟩:=y
 simp only at r s
 rw[eqAV]
 simp only[zh2,eqIt,eqPe,r,s,Option.bind_some,Hd.mk.injEq]
 by_cases h1:a1=b1<;>by_cases h2:a2=b2<;>by_cases h3:a3=b3<;>by_cases h4:a4=b4<;>by_cases h5:a5=b5<;>by_cases h6:a6=b6<;>by_cases h7:a7=b7<;>simp[h1,h2,h3,h4,h5,h6,h7]
def L115 :MC:=match m115 with| .seq _ (.seq (.seq _ (.block _ (.loop _ b))) _)=>b|_=>.skip
def S115 (f:Bool)(sh:Sh)(l:List Hd)(x:Hd)(i:Nat):St:=⟨[.set 8 (i64 i),.set 7 (i64 l.length),.set 3 (.ptr 3 []),.set 0 (.lst f sh (hds l))],[(3,.fix sHd (hdAV x))]⟩
theorem z5b (h:1<=n)(f:Bool){l:List Hd}{x:Hd}(hx:HdOk x)(hl:l.length<=60000)(ok:∀y∈l,HdOk y) :
  ∃r:Int,call gl tab n 115 [.lst f sHd (hds l),hdAV x] []=some (i64 r,[],[])/\(0<=r↔x∈l)/\-1<=r/\r<=60000:=by
 obtain⟨d,rfl⟩:=wF h
 have hL:=zbf l
 have u1:=b16 hx.r
 have u2:=b16 hx.s
 have w1:=H.bytes_all x.root
 have w2:=H.bytes_all x.sgn
 have hs:∀i,i<l.length->hdat l i≠x->zbd [.slot 0,.slot 3,.slot 7,.slot 8,.key 3] (evC gl (call gl tab d) L115 (S115 f sHd l x i))=some (S115 f sHd l x (i+1)):=fun i hi hp=>by
  have hy:=zeu hi
  have e:=eqHd hx (ok _ (zco hi))
  rw[decide_eq_false fun e=>hp e.symm]at e
  have oy:=ok _ (zco hi)
  have v1:=oy.r
  have v2:=oy.s
  have x1:=hx.r
  have x2:=hx.s
  have w3:=H.bytes_all (hdat l i).root
  have w4:=H.bytes_all (hdat l i).sgn
  clear oy
  generalize hdat l i=y at *
  simp(disch:=apply zq;omega) only[go_sem,simprocAttr,↓Nat.reduceEqDiff,xx,L115,m115,S115,hL,hy,e,v1,v2,x1,x2,w1,w2,w3,w4,zab]
 have hf:∀i,i<l.length->¬hdat l i≠x->out1 4 (evC gl (call gl tab d) L115 (S115 f sHd l x i))=some (.ret,i64 i):=fun i hi hp=>by
  have hy:=zeu hi
  have e:=eqHd hx (ok _ (zco hi))
  rw[decide_eq_true (Classical.not_not.1 hp).symm]at e
  have oy:=ok _ (zco hi)
  have v1:=oy.r
  have v2:=oy.s
  have x1:=hx.r
  have x2:=hx.s
  have w3:=H.bytes_all (hdat l i).root
  have w4:=H.bytes_all (hdat l i).sgn
  clear oy
  generalize hdat l i=y at *
  simp(disch:=apply zq;omega) only[go_sem,simprocAttr,↓Nat.reduceEqDiff,xx,L115,m115,S115,hL,hy,e,v1,v2,x1,x2,w1,w2,w3,w4,zab]
 rcases zbv (fun i=>hdat l i≠x) l.length with ha|⟨q,hq,hb',he⟩
 . refine⟨-1,?_,⟨fun h=>by omega,fun h=> ?_⟩,by omega,by omega⟩
   . have hs2:=fun i hi=>hs i hi (ha i hi)
     simp only[L115,m115]at hs2
     rw[zad (fd:=zrz) rfl]
     simp(disch:=apply zq;omega) only[go_sem,simprocAttr,↓Nat.reduceEqDiff,xx,zrz,m115,hL,u1,u2,w1,w2]
     rw[zag (S115 f sHd l x) l.length (by unfold LF;omega)]
     . simp(disch:=apply zq;omega) only[go_sem,simprocAttr,↓Nat.reduceEqDiff,xx,S115,hL]
     . simp(disch:=apply zq;omega) only[go_sem,simprocAttr,↓Nat.reduceEqDiff,xx,S115,hL]
     . exact hs2
     . simp(disch:=apply zq;omega) only[go_sem,simprocAttr,↓Nat.reduceEqDiff,xx,S115,hL]
   . obtain⟨i,hi,rfl⟩:=wD h
     exact absurd (by simp[hdat,hi]) (ha i hi)
 . refine⟨q,?_,⟨fun _=> ?_,fun _=>by omega⟩,by omega,by omega⟩
   . obtain⟨st,hst,hg⟩:=zcn (hf q hq he)
     have hs2:=fun i (hi:i<q)=>hs i (by omega) (hb' i hi)
     simp only[L115,m115]at hs2 hst
     rw[zad (fd:=zrz) rfl]
     simp(disch:=apply zq;omega) only[go_sem,simprocAttr,↓Nat.reduceEqDiff,xx,zrz,m115,hL,u1,u2,w1,w2]
     rw[zag (S115 f sHd l x) q (by unfold LF;omega),hst]
     . simp(disch:=apply zq;omega) only[go_sem,simprocAttr,↓Nat.reduceEqDiff,xx,hg]
     . simp(disch:=apply zq;omega) only[go_sem,simprocAttr,↓Nat.reduceEqDiff,xx,S115,hL]
     . exact hs2
     . rw[hst];rfl
   . rw[<-Classical.not_not.1 he];exact zco hq
theorem qcj (h:2<=n)(f:Bool){sh:Sh}{l:List Hd}{x:Hd}(hx:HdOk x)(h3:l=[]\/sh=sHd)(hl:l.length<=60000)(ok:∀y∈l,HdOk y) :
  call gl tab n 66 [.lst f sh (hds l),hdAV x] []=some (.bool (decide (x∈l)),[],[]):=by
 obtain⟨d,rfl⟩:=wF h
 have u1:=b16 hx.r
 have u2:=b16 hx.s
 have w1:=H.bytes_all x.root
 have w2:=H.bytes_all x.sgn
 have hL:=zbf l
 rcases h3 with rfl|rfl
 . have hI:hds []=[]:=rfl
   have c:call gl tab (d+1) 115 [.lst f sh [],hdAV x] []=some (i64 (-1),[],[]):=by
    rw[zad (fd:=zrz) rfl]
    simp(disch:=apply zq;omega) only[go_sem,simprocAttr,↓Nat.reduceEqDiff,xx,zrz,m115,u1,u2,w1,w2]
    rw[zag (fun i=>(⟨[.set 8 (i64 i),.set 7 (i64 0),.set 3 (.ptr 3 []),.set 0 (.lst f sh [])],[(3,.fix sHd (hdAV x))]⟩:St)) 0 (by unfold LF;omega)]
    . simp(disch:=apply zq;omega) only[go_sem,simprocAttr,↓Nat.reduceEqDiff,xx]
    . simp(disch:=apply zq;omega) only[go_sem,simprocAttr,↓Nat.reduceEqDiff,xx]
    . intro i hi;omega
    . simp(disch:=apply zq;omega) only[go_sem,simprocAttr,↓Nat.reduceEqDiff,xx]
   rw[decide_eq_false (by simp)]
   rw[zad (fd:=fd66) rfl]
   simp(disch:=apply zq;omega) only[go_sem,simprocAttr,↓Nat.reduceEqDiff,xx,fd66,m66,hI,c,u1,u2,w1,w2]
 . obtain⟨r,c,hr,r1,r2⟩:=@z5b gl (d+1) (by omega) f l x hx hl ok
   rw[zad (fd:=fd66) rfl]
   by_cases hm:x∈l
   . rw[decide_eq_true hm]
     have:=hr.2 hm
     simp(disch:=apply zq;omega) only[go_sem,simprocAttr,↓Nat.reduceEqDiff,xx,fd66,m66,c,u1,u2,w1,w2]
   . rw[decide_eq_false hm]
     have:¬0<=r:=fun h=>hm (hr.1 h)
     simp(disch:=apply zq;omega) only[go_sem,simprocAttr,↓Nat.reduceEqDiff,xx,fd66,m66,c,u1,u2,w1,w2]
end Go.Proofs.S44.L
namespace Go.Proofs.S44.L
open Go Go.Ev Go.Proofs Go.Proofs.S44
open Go.Proofs.S44.H (strsAV zaa zai Sml GlK GlR zam zbn nsI zal zdq zint zau encB zaw zaf dig inp)
open Go.Proofs.S44.M (lf zcv Dg dgL dgL_length All16 Sd sB pkAV grw)
variable {gl :Gl} {n:Nat}
section
variable {s z:Int} {f f2 f3:Bool} {sh sh2 sh3:Sh} {l:List Rv} {t:List Dg} {hs:List Hd}
theorem zcp {l:List Rv}(ok:∀x∈l,RvOk gl x):All16 (fs l):=by
 intro y hy
 simp only[fs,List.mem_map]at hy
 obtain⟨x,hx,rfl⟩:=hy
 exact(ok x hx).f
theorem z4q [Nonempty (GlK gl)](hn:1001<=n)(h2:Sr l sh)(hl:l.length<=800)(ok:∀x∈l,RvOk gl x)(h3:hs=[]\/sh3=sHd)(hhl:hs.length<=60000)(hh:∀y∈hs,HdOk y)
  {h:Hd} (hx:h∈hs) {k i:Nat} (hk:h.size=k) (hkl:k<=l.length) (hi:i<k) :
  call gl tab n 21 [ldAV s f sh l z f2 sh2 t f3 sh3 (hds hs),i64 i,hdAV h] [] =
   some (.tup [.agg [rvAV (rat l i),hdAV h,.lst false sB (dgL (Mk.incl M.nd M.em (fs (l.take k)) i))],i64 0],[],[]):=by
 obtain⟨d,rfl⟩:=wF hn
 have o:=hh h hx
 have c1:=@qcj gl (d+1000) (by omega) f3 sh3 hs h o h3 hhl hh
 rw[decide_eq_true hx]at c1
 have c2:=@zl6 gl (d+1000) (by omega) s z f f2 f3 sh sh2 sh3 l t (hds hs) h2 (by omega) ok k hkl
 have hlt:(l.take k).length=k:=by rw[wB];omega
 have c3:=M.inclusion_ok (gl:=gl) (n:=d+1000) (l:=fs (l.take k)) (f:=false) (sh:=sB) (i:=i) (by omega) (zcp fun x hx=>ok x (wC hx)) (by rw[zan];omega) (by rw[zan];omega) (.inr rfl)
 rw[<-hk]at c2
 have hL:=zaz l
 have hLh:=zbf hs
 obtain rfl:sh=sRe:=by
  rcases h2 with rfl|rfl
  . simp at hkl;omega
  . rfl
 have hr:=zhp (l:=l) (i:=i) (by omega)
 have q1:=(ok _ (zfc (show i<l.length by omega))).sh
 have u1:=b16 o.r
 have u2:=b16 o.s
 have w1:=H.bytes_all h.root
 have w2:=H.bytes_all h.sgn
 generalize Mk.incl M.nd M.em (fs (l.take k)) i=p at *
 have lp:=dgL_length p
 have tp:List.take p.length (dgL p)=dgL p:=wA (by rw[lp];exact wH _)
 generalize rat l i=x at *
 rw[zad (fd:=fd21) rfl]
 simp(maxSteps:=1000000) (disch:=apply zq;omega) only[go_sem,simprocAttr,↓Nat.reduceEqDiff,xx,fd21,m21,↓out16_eq,c1,c2,c3,hL,hLh,hr,q1,u1,u2,w1,w2,lp,tp,H.oo]
end
end Go.Proofs.S44.L
