/-
  Chapter 44: ledgers grow. No condition.
-/
import Derived.Test.YtcddalfeicoedaaGreatDoorW44G17x6
set_option linter.all false
open Nat renaming exists_eq_add_of_le'->wA,le_refl->wB,sub_zero->wC,add_sub_cancel->wD
open List renaming take_of_length_le->wE,drop_zero->wF,length_append->wG,length_take->wH,getElem_mem->wI,length_nil->wJ
open Int renaming eq_ofNat_of_zero_le->wK,toNat_natCast->wL
namespace Go.Proofs.S44.L
open Go Go.Ev Go.Proofs Go.Proofs.S44
open Go.Proofs.S44.H (strsAV zaa zal Sml GlK GlR zaj zbq nsI zam zint zay encB za0 zaf dig inp)
open Go.Proofs.S44.M (lf zd3 Dg dgL dgL_length All16 Sd sB pkAV grw)
variable {gl :Gl} {n:Nat}
structure Rv where
 site:Int
 seq:Int
 r:List AV
 f:List UInt8
abbrev rvAV (x:Rv):AV:=.agg (i64 x.site::i64 x.seq::x.r)
abbrev rSh :List Sh:=[.st [.sc,.sc,.sc,.sc,.st [.sc,.sc]],.sc,sTk,.ar 16 .sc,sRl,.sc,sSp,.sc,.st [.sc,.sc],.ar 16 .sc,sTk,.sc,.sc]
structure RvOk (gl:Gl)(x:Rv):Prop where
 sh:za3 rSh x.r=true
 f:x.f.length=16
 l:∀n,12<=n->call gl tab n 28 [rvAV x] []=some (bAV x.f,[],[])
def rvs (l:List Rv):List AV:=l.map rvAV
theorem zbc (l:List Rv):(rvs l).length=l.length:=by simp[rvs]
theorem z96 (l:List Rv)(x:Rv):rvs l++[rvAV x]=rvs (l++[x]):=by simp[rvs]
theorem site_at (h:1<=n)(a:Int):call gl tab n 47 [i64 a] []=some (.bool (decide (0<=a/\a<64)),[],[]):=by
 obtain⟨d,rfl⟩:=wA h
 rw[zad (fd:=fd47) rfl]
 by_cases h1:0<=a
 . by_cases h2:a<64
   . rw[decide_eq_true ⟨h1,h2⟩];simp(disch:=apply zq;omega) only[go_sem,simprocAttr,↓Nat.reduceEqDiff,xx,fd47,m47]
   . rw[decide_eq_false (fun h=>h2 h.2)];simp(disch:=apply zq;omega) only[go_sem,simprocAttr,↓Nat.reduceEqDiff,xx,fd47,m47]
 . rw[decide_eq_false (fun h=>h1 h.1)];simp(disch:=apply zq;omega) only[go_sem,simprocAttr,↓Nat.reduceEqDiff,xx,fd47,m47]
abbrev sLd :Sh:=.st [.sc,.sc,.st [.sc,.sc],.sc]
theorem z9c {sh:Sh}{l:List AV}{k:Nat}(hs:l=[]\/sh.size=k):(l.isEmpty||sh.size==k)=true:=by
 rcases hs with rfl|rfl
 . rfl
 . simp
theorem qct (h:1<=n){f:Bool}{sh:Sh}{l:List AV}(hs:l=[]\/sh.size=146):call gl tab n 56 [.lst f sh l] []=some (.lst true sh l,[],[]):=by
 obtain⟨d,rfl⟩:=wA h
 have t:=wE (wB l.length)
 have hz:=z9c hs
 rw[zad (fd:=fd56) rfl]
 simp(disch:=apply zq;omega) only[go_sem,simprocAttr,↓Nat.reduceEqDiff,xx,fd56,m56,t,wC,wF,hz]
theorem z7p (h:1<=n){f:Bool}{sh:Sh}{l:List AV}(hs:l=[]\/sh.size=37):call gl tab n 62 [.lst f sh l] []=some (.lst true sh l,[],[]):=by
 obtain⟨d,rfl⟩:=wA h
 have t:=wE (wB l.length)
 have hz:=z9c hs
 rw[zad (fd:=fd62) rfl]
 simp(disch:=apply zq;omega) only[go_sem,simprocAttr,↓Nat.reduceEqDiff,xx,fd62,m62,t,wC,wF,hz]
def Sr (l:List Rv)(sh:Sh):Prop:=l=[]\/sh=sRe
abbrev ldAV (s:Int)(f:Bool)(sh:Sh)(l:List Rv)(z:Int)(f2:Bool)(sh2:Sh)(t:List Dg)(f3:Bool)(sh3:Sh)(U:List AV):AV:=.agg [i64 s,.lst f sh (rvs l),.agg [i64 z,.lst f2 sh2 (dgL t)],.lst f3 sh3 U]
section
variable {s :Int} {f f2 f3:Bool} {sh sh2 sh3:Sh} {l:List Rv} {t:List Dg} {U:List AV}
theorem qc4 (h:1<=n){z:Int}{x:Rv}(hx:RvOk gl x)(hl:l.length<=1000000)(hb:¬(x.site=s/\x.seq=l.length)) :
  call gl tab n 16 [ldAV s f sh l z f2 sh2 t f3 sh3 U,rvAV x] []=some (.tup [ldAV s f sh l z f2 sh2 t f3 sh3 U,i64 1],[],[]):=by
 obtain⟨d,rfl⟩:=wA h
 have h1:=hx.sh
 have hL:=zbc l
 rw[zad (fd:=fd16) rfl]
 by_cases e1:x.site=s
 . have e2:(x.seq != (l.length:Int))=true:=by rw[bne_iff_ne];exact fun e=>hb ⟨e1,e⟩
   have e1:(x.site != s)=false:=by rw[e1];exact bne_self_eq_false _
   simp(disch:=apply zq;omega) only[go_sem,simprocAttr,↓Nat.reduceEqDiff,xx,fd16,m16,↓out16_eq,h1,hL,e1,e2,H.oo]
 . have e1:(x.site != s)=true:=by rw[bne_iff_ne];exact e1
   simp(disch:=apply zq;omega) only[go_sem,simprocAttr,↓Nat.reduceEqDiff,xx,fd16,m16,↓out16_eq,h1,hL,e1,H.oo]
theorem qhn [Nonempty (GlK gl)][Nonempty (M.GlB gl)](h:15<=n){z:Nat}{x:Rv}(hx:RvOk gl x)(hl:l.length<60000)(hs:Sr l sh)(e1:x.site=s)(e2:x.seq=l.length)
  (ht:t.length<=1000000) (ha:All16 t) (hs2:Sd t sh2 sB) (hz:z<1099511627776) (hF:M.Form z t) :
  call gl tab n 16 [ldAV s f sh l z f2 sh2 t f3 sh3 U,rvAV x] []=some (.tup [ldAV s false sRe (l++[x]) (z+1:Nat) false sB (grw z t x.f) f3 sh3 U,i64 0],[],[]):=by
 obtain⟨d,rfl⟩:=wA h
 have h1:=hx.sh
 have h2:=hx.l (d+14) (by omega)
 have hL:=zbc l
 have c:=@M.append_ok gl (d+14) _ _ (by omega) z f2 sh2 t x.f hx.f ht ha hs2 hz hF
 have k:=@qct gl (d+14) (by omega) f sh (rvs l) (by
  rcases hs with rfl|rfl
  . exact .inl rfl
  . exact .inr rfl)
 have e1:(x.site != s)=false:=by rw[e1];exact bne_self_eq_false _
 have e2:(x.seq != (l.length:Int))=false:=by rw[e2];exact bne_self_eq_false _
 have hA:=z96 l x
 have q:=H.bytes_all x.f
 have q2:=b16 hx.f
 have hLim:l.length+1<=LIM:=by unfold LIM;omega
 rw[zad (fd:=fd16) rfl]
 show _=some (AV.tup [.agg [i64 s,.lst false sRe (rvs (l++[x])),.agg [i64 (z+1:Nat),.lst false sB (dgL (grw z t x.f))],.lst f3 sh3 U],i64 0],[],[])
 rw[<-hA]
 have hLim0:0+1<=LIM:=by unfold LIM;omega
 have hLim1:0<=LIM:=by unfold LIM;omega
 rcases hs with rfl|rfl
 . have hI:rvs []=[]:=rfl
   rw[hI]at k
   simp(disch:=apply zq;omega) only[go_sem,simprocAttr,↓Nat.reduceEqDiff,xx,fd16,m16,↓out16_eq,h1,h2,hI,wJ,e1,e2,c,k,q,q2,hLim0,hLim1,H.oo]
 . simp(disch:=apply zq;omega) only[go_sem,simprocAttr,↓Nat.reduceEqDiff,xx,fd16,m16,↓out16_eq,h1,h2,hL,e1,e2,c,k,q,q2,hLim,H.oo]
   rw[wE (by rw[wG,hL];exact wB _)]
end
end Go.Proofs.S44.L
namespace Go.Proofs.S44.L
open Go Go.Ev Go.Proofs Go.Proofs.S44
open Go.Proofs.S44.H (strsAV zaa zal Sml GlK GlR zaj zbq nsI zam zint zay encB za0 zaf dig inp)
open Go.Proofs.S44.M (lf zd3 Dg dgL dgL_length All16 Sd sB pkAV grw)
variable {gl :Gl} {n:Nat}
def fs (l:List Rv):List Dg:=l.map (·.f)
theorem za4 (l:List Rv):(fs l).length=l.length:=by simp[fs]
def rat (l:List Rv)(i:Nat):Rv:=l.getD i ⟨0,0,[],[]⟩
theorem zj9 {l:List Rv}{i:Nat}(h:i<l.length):(rvs l)[i]? =some (.agg (i64 (rat l i).site::i64 (rat l i).seq::(rat l i).r)):=by simp[rvs,rat,h]
theorem zgq {l:List Rv}{i:Nat}(h:i<l.length):rat l i∈l:=by
 rw[show rat l i=l[i] by simp[rat,h]];exact wI h
theorem ztk {l:List Rv}{i:Nat}(h:i<l.length):(fs l).take (i+1)=(fs l).take i++[(rat l i).f]:=by
 rw[List.take_succ_eq_append_getElem (by rw[za4];exact h)]
 simp[fs,rat,h]
theorem z32 (l:List Rv)(k:Nat):List.take k (rvs l)=rvs (l.take k):=by simp[rvs,List.map_take]
theorem zvt (a:List Dg)(x:Dg):dgL a++[.agg (zac x)]=dgL (a++[x]):=by simp[M.dgL]
def L54 :MC:=match m54 with| .seq _ (.seq _ (.seq (.seq _ (.block _ (.loop _ b))) _))=>b|_=>.skip
def S54 (f:Bool)(sh:Sh)(l:List Rv)(i:Nat):St:=⟨[.set 13 (i64 i),.set 12 (i64 l.length),.set 11 (.lst f sh (rvs l)),.set 5 (.sl 5005 [] 0 i)],[(5005,.grow (.ar 16 .sc) (dgL ((fs l).take i)))]⟩
theorem qd7 {d:Nat}(hd:12<=d)(f:Bool){l:List Rv}(hl:l.length<=60000)(ok:∀x∈l,RvOk gl x)(i:Nat)(hi:i<l.length) :
  zbe [.own 5 5005 (.ar 16 .sc),.slot 11,.slot 12,.slot 13] (evC gl (call gl tab d) L54 (S54 f sRe l i))=some (S54 f sRe l (i+1)):=by
 have hx:=zj9 hi
 have o:=ok _ (zgq hi)
 have h1:=o.sh
 have h2:=o.l d hd
 have q:=H.bytes_all (rat l i).f
 have q2:=b16 o.f
 have hL:=zbc l
 have lt:((fs l).take i).length=i:=by rw[wH,za4];omega
 have ld:=dgL_length ((fs l).take i)
 have ld2:=dgL_length ((fs l).take (i+1))
 rw[ztk hi]at ld2
 have hLim:i+1<=LIM:=by unfold LIM;omega
 rw[lt]at ld
 rw[S54,S54,ztk hi]
 generalize (fs l).take i=a at *
 generalize rat l i=y at *
 clear o
 simp(disch:=apply zq;omega) only[go_sem,simprocAttr,↓Nat.reduceEqDiff,xx,L54,m54,↓out16_eq,hx,hL,h1,h2,q,q2,ld,hLim,zvt,M.dgL_length,lt,H.oo,H.noImms_bytesAV]
theorem zmc (h:13<=n){s z:Int}{f f2 f3:Bool}{sh sh2 sh3:Sh}{l:List Rv}{t:List Dg}{U:List AV}(hs:Sr l sh)(hl:l.length<=60000)(ok:∀x∈l,RvOk gl x){k:Nat}(hk:k<=l.length) :
  call gl tab n 54 [ldAV s f sh l z f2 sh2 t f3 sh3 U,i64 k] []=some (.lst false sB (dgL (fs (l.take k))),[],[]):=by
 obtain⟨d,rfl⟩:=wA h
 have hL:=zbc l
 have hz:=z9c (sh:=sh) (l:=rvs l) (k:=146) (by
  rcases hs with rfl|rfl
  . exact .inl rfl
  . exact .inr rfl)
 have hlt:(l.take k).length=k:=by rw[wH];omega
 have st:∀f' i,i<k->zbe [.own 5 5005 (.ar 16 .sc),.slot 11,.slot 12,.slot 13] (evC gl (call gl tab (d+12)) L54 (S54 f' sh (l.take k) i))=some (S54 f' sh (l.take k) (i+1)):=fun f' i hi=>by
  rcases hs with rfl|rfl
  . simp at hk;omega
  . exact @qd7 gl (d+12) (by omega) f' (l.take k) (by omega) (fun x hx=>ok x (List.mem_of_mem_take hx)) i (by omega)
 simp only[L54,m54,↓out16_eq]at st
 have hr:(rvs (l.take k)).length=k:=by rw[zbc,hlt]
 have e:=z32 l k
 have lf:=za4 (l.take k)
 have tt:(fs (l.take k)).take k=fs (l.take k):=wE (by omega)
 have ta:List.take k (dgL (fs (l.take k)))=dgL (fs (l.take k)):=wE (by rw[M.dgL_length];omega)
 have ld:=dgL_length (fs (l.take k))
 rw[zad (fd:=fd54) rfl]
 simp(disch:=apply zq;omega) only[go_sem,simprocAttr,↓Nat.reduceEqDiff,xx,fd54,m54,↓out16_eq,hL,hz,e,hr,wC,wF,H.oo]
 rw[zai (S54 (f&&k==l.length) sh (l.take k)) k (by unfold LF;omega)]
 . rw[S54,hlt,tt];simp(disch:=apply zq;omega) only[go_sem,simprocAttr,↓Nat.reduceEqDiff,xx,hr,ld,ta,lf,hlt]
 . rw[S54,hlt,List.take_zero];simp(disch:=apply zq;omega) only[go_sem,simprocAttr,↓Nat.reduceEqDiff,xx,hr];rfl
 . exact st _
 . rw[S54,hlt,tt];simp(disch:=apply zq;omega) only[go_sem,simprocAttr,↓Nat.reduceEqDiff,xx,hr]
end Go.Proofs.S44.L
namespace Go.Proofs.S44.L
open Go Go.Ev Go.Proofs Go.Proofs.S44
open Go.Proofs.S44.H (strsAV zaa zal Sml GlK GlR zaj zbq nsI zam zff zint zay encB za0 zaf dig inp)
open Go.Proofs.S44.M (lf zd3 Dg dgL dgL_length All16 Sd sB pkAV grw)
variable {gl :Gl} {n:Nat}
def fE :List Int->Int
 | []=>0
 | a::l=>if a=0 then fE l else a
theorem z8u :∀{l:List Int},(∀x∈l,x=0)->fE l=0
 | [],_=>rfl
 | a::l,h=>by rw[fE,if_pos (h a (by simp))];exact z8u fun x hx=>h x (by simp[hx])
theorem qgf :∀{l:List Int} {q:Nat} (hq:q<l.length),(∀j (hj:j<q),l[j]'(by omega)=0)->l[q]≠0->fE l=l[q]
 | a::l,0,_,_,h=>by
   have h:a≠0:=h
   rw[fE,if_neg h];rfl
 | a::l,q+1,hq,h0,h=>by
   have h1:a=0:=h0 0 (by omega)
   rw[fE,if_pos h1]
   exact qgf (l:=l) (q:=q) (by simpa using hq) (fun j hj=>h0 (j+1) (by omega)) h
def L68 :MC:=match m68 with| .seq _ (.seq (.seq _ (.block _ (.loop _ b))) _)=>b|_=>.skip
def S68 (f:Bool)(l:List Int)(i:Nat):St:=⟨[.set 7 (i64 i),.set 6 (i64 l.length),.set 5 (.lst f .sc (nsI l))],[]⟩
theorem z5v (h:1<=n)(f:Bool){l:List Int}(hl:l.length<=1000):call gl tab n 68 [.lst f .sc (nsI l)] []=some (i64 (fE l),[],[]):=by
 obtain⟨d,rfl⟩:=wA h
 have hL:=zam l
 have hs:∀i (hi:i<l.length),l[i]=0->zbe [.slot 5,.slot 6,.slot 7] (evC gl (call gl tab d) L68 (S68 f l i))=some (S68 f l (i+1)):=fun i hi hp=>by
  have hx:=zff hi
  rw[hp]at hx
  simp(disch:=apply zq;omega) only[go_sem,simprocAttr,↓Nat.reduceEqDiff,xx,L68,m68,S68,hL,hx]
 have hf:∀i (hi:i<l.length),l[i]≠0->out1 2 (evC gl (call gl tab d) L68 (S68 f l i))=some (.ret,i64 l[i]):=fun i hi hp=>by
  have hx:=zff hi
  have hb:(l[i] != 0)=true:=by rw[bne_iff_ne];exact hp
  generalize l[i]=v at *
  simp(disch:=apply zq;omega) only[go_sem,simprocAttr,↓Nat.reduceEqDiff,xx,L68,m68,S68,hL,hx,hb]
 rw[zad (fd:=fd68) rfl]
 rcases zb8 (fun i=>∀hi:i<l.length,l[i]=0) l.length with ha|⟨q,hq,hb',he⟩
 . rw[z8u fun x hx=>by
    obtain⟨i,hi,rfl⟩:=List.getElem_of_mem hx
    exact ha i hi hi]
   have hs2:=fun i hi=>hs i hi (ha i hi hi)
   simp only[L68,m68]at hs2
   simp(disch:=apply zq;omega) only[go_sem,simprocAttr,↓Nat.reduceEqDiff,xx,fd68,m68,hL]
   rw[zai (S68 f l) l.length (by unfold LF;omega)]
   . simp(disch:=apply zq;omega) only[go_sem,simprocAttr,↓Nat.reduceEqDiff,xx,S68,hL]
   . simp(disch:=apply zq;omega) only[go_sem,simprocAttr,↓Nat.reduceEqDiff,xx,S68,hL]
   . exact hs2
   . simp(disch:=apply zq;omega) only[go_sem,simprocAttr,↓Nat.reduceEqDiff,xx,S68,hL]
 . have he:l[q]≠0:=fun e=>he fun _=>e
   rw[qgf hq (fun j hj=>hb' j hj (by omega)) he]
   obtain⟨st,hst,hg⟩:=zc9 (hf q hq he)
   have hs2:=fun i (hi:i<q)=>hs i (by omega) (hb' i hi (by omega))
   simp only[L68,m68]at hs2 hst
   simp(disch:=apply zq;omega) only[go_sem,simprocAttr,↓Nat.reduceEqDiff,xx,fd68,m68,hL]
   rw[zai (S68 f l) q (by unfold LF;omega),hst]
   . simp(disch:=apply zq;omega) only[go_sem,simprocAttr,↓Nat.reduceEqDiff,xx,hg]
   . simp(disch:=apply zq;omega) only[go_sem,simprocAttr,↓Nat.reduceEqDiff,xx,S68,hL]
   . exact hs2
   . rw[hst];rfl
def mE (b:Bool)(e:Int):Int:=if b then 0 else e
theorem z0l (h:1<=n)(b:Bool)(e:Int):call gl tab n 69 [.bool b,i64 e] []=some (i64 (mE b e),[],[]):=by
 obtain⟨d,rfl⟩:=wA h
 rw[zad (fd:=fd69) rfl]
 cases b
 . simp(disch:=apply zq;omega) only[go_sem,simprocAttr,↓Nat.reduceEqDiff,xx,fd69,m69];rfl
 . simp(disch:=apply zq;omega) only[go_sem,simprocAttr,↓Nat.reduceEqDiff,xx,fd69,m69];rfl
def ckI (leaf:Dg)(i N:Int)(p:List Dg)(root:Dg):Bool :=
 decide (¬(N<1\/N>1099511627776\/i<0\/i>=N)/\p.length=Mk.dep i.toNat N.toNat/\Mk.cl M.nd M.z16 leaf i.toNat N.toNat p=root)
theorem qg8 [Nonempty (GlK gl)](h:60<=n){leaf root:Dg}{i N:Int}{f:Bool}{sh:Sh}{p:List Dg}(hf:leaf.length=16)(hr:root.length=16)(ha:All16 p)(hl:p.length<=1000000)(hs:Sd p sh sB) :
  call gl tab n 71 [bAV leaf,i64 i,i64 N,.lst f sh (dgL p),bAV root] []=some (.bool (ckI leaf i N p root),[],[]):=by
 by_cases hb:N<1\/N>1099511627776\/i<0\/i>=N
 . rw[ckI,decide_eq_false (fun h=>h.1 hb)]
   exact M.checkI_bad (by omega) hb hf hr
 . obtain⟨i,rfl⟩:=wK (show 0<=i by omega)
   obtain⟨N,rfl⟩:=wK (show 0<=N by omega)
   have:=M.checkI_ok (gl:=gl) h (i:=i) (N:=N) (f:=f) (by omega) (by omega) (by omega) hf hr ha hl hs
   rw[this,ckI]
   congr 3
   rw[Bool.eq_iff_iff,decide_eq_true_eq,decide_eq_true_eq,wL,wL]
   exact⟨fun h=>⟨hb,h⟩,fun h=>h.2⟩
abbrev hdA (x:Hd):AV:=.agg [i64 x.site,i64 x.size,bAV x.root,.agg [i64 x.lo,i64 x.hi],i64 x.ser,bAV x.sgn]
def ckS (ring:List Ky)(x:Rv)(h:Hd)(p:List Dg):Int:=fE [mE (x.site==h.site) 1,hdC ring h,mE (ckI x.f x.seq h.size p h.root) 3]
theorem zun [Nonempty (GlK gl)](hn:61<=n){fr:Bool}{m:Sh}{ring:List Ky}(hm:Mk ring m)(hv:VR ring){x:Rv}(hx:RvOk gl x){h:Hd}(hh:HdOk h){f:Bool}{sh:Sh}{p:List Dg}(ha:All16 p)(hl:p.length<=1000000)(hs:Sd p sh sB) :
  call gl tab n 22 [.lst fr m (ks ring),.agg [rvAV x,hdAV h,.lst f sh (dgL p)]] []=some (i64 (ckS ring x h p),[],[]):=by
 obtain⟨d,rfl⟩:=wA hn
 have h1:=hx.sh
 have h2:=hx.l (d+60) (by omega)
 have u1:=b16 hh.r
 have u2:=b16 hh.s
 have w1:=H.bytes_all h.root
 have w2:=H.bytes_all h.sgn
 have q:=H.bytes_all x.f
 have q2:=b16 hx.f
 have c1:=@z0l gl (d+60) (by omega) (x.site==h.site) 1
 have c2:=qfy (gl:=gl) (n:=d+60) (f:=fr) (by omega) hm hv h hh
 have c3:=qg8 (gl:=gl) (n:=d+60) (leaf:=x.f) (root:=h.root) (i:=x.seq) (N:=h.size) (f:=f) (by omega) hx.f hh.r ha hl hs
 have c4:=@z0l gl (d+60) (by omega) (ckI x.f x.seq h.size p h.root) 3
 have c5:=@z5v gl (d+60) (by omega) false [mE (x.site==h.site) 1,hdC ring h,mE (ckI x.f x.seq h.size p h.root) 3] (by simp)
 unfold ckS
 generalize fE [mE (x.site==h.site) 1,hdC ring h,mE (ckI x.f x.seq h.size p h.root) 3]=r at *
 have e5:nsI [mE (x.site==h.site) 1,hdC ring h,mE (ckI x.f x.seq h.size p h.root) 3]=[i64 (mE (x.site==h.site) 1),i64 (hdC ring h),i64 (mE (ckI x.f x.seq h.size p h.root) 3)]:=rfl
 rw[e5]at c5
 clear e5
 generalize mE (x.site==h.site) 1=r1 at *
 generalize hdC ring h=r2 at *
 generalize mE (ckI x.f x.seq h.size p h.root) 3=r3 at *
 rw[zad (fd:=fd22) rfl]
 simp(disch:=apply zq;omega) only[go_sem,simprocAttr,↓Nat.reduceEqDiff,xx,fd22,m22,↓out16_eq,h1,h2,u1,u2,w1,w2,q,q2,c1,c2,c3,c4,c5,H.oo]
end Go.Proofs.S44.L
namespace Go.Proofs.S44.L
open Go Go.Ev Go.Proofs Go.Proofs.S44
open Go.Proofs.S44.H (strsAV zaa zal Sml GlK GlR zaj zbq nsI zam zff zint zay encB za0 zaf dig inp)
open Go.Proofs.S44.M (lf zd3 Dg dgL dgL_length All16 Sd sB pkAV grw)
variable {gl :Gl} {n:Nat}
def CV (lo hi:Int):Prop:=0<=lo/\lo<=hi/\hi<=1099511627776
instance (lo hi:Int):Decidable (CV lo hi):=by unfold CV;infer_instance
theorem z2u (h:1<=n)(lo hi:Int):call gl tab n 59 [.agg [i64 lo,i64 hi]] []=some (.bool (decide (CV lo hi)),[],[]):=by
 obtain⟨d,rfl⟩:=wA h
 rw[zad (fd:=fd59) rfl]
 by_cases h1:0<=lo
 . by_cases h2:lo<=hi
   . by_cases h3:hi<=1099511627776
     . rw[decide_eq_true (show CV lo hi from⟨h1,h2,h3⟩)];simp(disch:=apply zq;omega) only[go_sem,simprocAttr,↓Nat.reduceEqDiff,xx,fd59,m59]
     . rw[decide_eq_false (fun h:CV lo hi=>h3 h.2.2)];simp(disch:=apply zq;omega) only[go_sem,simprocAttr,↓Nat.reduceEqDiff,xx,fd59,m59]
   . rw[decide_eq_false (fun h:CV lo hi=>h2 h.2.1)];simp(disch:=apply zq;omega) only[go_sem,simprocAttr,↓Nat.reduceEqDiff,xx,fd59,m59]
 . rw[decide_eq_false (fun h:CV lo hi=>h1 h.1)];simp(disch:=apply zq;omega) only[go_sem,simprocAttr,↓Nat.reduceEqDiff,xx,fd59,m59]
abbrev sHd :Sh:=.st [.sc,.sc,.ar 16 .sc,.st [.sc,.sc],.sc,.ar 16 .sc]
def hds (l:List Hd):List AV:=l.map hdAV
theorem zb3 (l:List Hd):(hds l).length=l.length:=by simp[hds]
def hdat (l:List Hd)(i:Nat):Hd:=l.getD i ⟨0,0,[],0,0,0,[]⟩
theorem ziv {l:List Hd}{i:Nat}(h:i<l.length):(hds l)[i]? =some (hdAV (hdat l i)):=by simp[hds,hdat,h]
theorem qbt (l:List Hd)(x:Hd):hds l++[hdAV x]=hds (l++[x]):=by simp[hds]
theorem zdn {l:List Hd}{i:Nat}(h:i<l.length):hdat l i∈l:=by
 rw[show hdat l i=l[i] by simp[hdat,h]];exact wI h
abbrev zB :List UInt8:=List.replicate 16 0
abbrev hd0 (s:Int)(k:Nat)(root:Dg)(lo hi:Int):Hd:=⟨s,k,root,lo,hi,0,zB⟩
section
variable {s z lo hi:Int} {f f2 f3:Bool} {sh sh2 sh3:Sh} {l:List Rv} {t:List Dg} {hs:List Hd} {k:Ky} {root:Dg}
theorem z95 [Nonempty (GlK gl)](h:16<=n)(hk:VK k)(hs0:0<=s/\s<64)(hp:k.p=1000+s)(hc:CV lo hi)(hr:root.length=16)(ct:∀n,14<=n->call gl tab n 60 [pkAV z f2 sh2 t] []=some (.tup [bAV root,i64 0],[],[]))(hl:l.length<=60000)
  (h3:hs=[]\/sh3=sHd) (hhl:hs.length<=60000) (hh:∀x∈hs,HdOk x) (hlo:hs=[]\/(hdat hs (hs.length-1)).lo<=lo) :
  call gl tab n 18 [ldAV s f sh l z f2 sh2 t f3 sh3 (hds hs),ky k,.agg [i64 lo,i64 hi]] [] =
   some (.tup [ldAV s f sh l z f2 sh2 t false sHd (hds (hs++[hdS k (hd0 s l.length root lo hi)])),hdAV (hdS k (hd0 s l.length root lo hi)),i64 0],[],[]):=by
 obtain⟨d,rfl⟩:=wA h
 have c1:=@S44.valid_at gl (d+15) (by omega) k (by have:=hk.k;omega)
 rw[decide_eq_true hk]at c1
 have c2:=@z2u gl (d+15) (by omega) lo hi
 rw[decide_eq_true hc]at c2
 have c3:=ct (d+15) (by omega)
 unfold CV at hc
 have hok:HdOk (hd0 s l.length root lo hi):=⟨zbg (show R64 s by unfold R64;omega) (zbg (show R64 (l.length:Int) by unfold R64;omega) (zbg (show R64 lo by unfold R64;omega) (zbg (show R64 hi by unfold R64;omega) (zbg (show R64 0 by unfold R64;omega) zga (by simp)) (by simp)) (by simp)) (by simp)) (by simp),hr,by simp⟩
 have c4:=@qfx gl (d+15) _ (by omega) k hk.ok _ hok
 have hb:(k.p != 1000+s)=false:=by rw[hp];exact bne_self_eq_false _
 have c5:=@z7p gl (d+15) (by omega) f3 sh3 (hds hs) (by
  rcases h3 with rfl|rfl
  . exact .inl rfl
  . exact .inr rfl)
 have hL:=zbc l
 have hLh:=zb3 hs
 have ok2:=z8q hk.ok hok
 have v1:=b16 hr
 have w1:=H.bytes_all root
 have v2:(zac (hdS k (hd0 s l.length root lo hi)).sgn).length=16:=b16 ok2.s
 have w2:=H.bytes_all (hdS k (hd0 s l.length root lo hi)).sgn
 have hA:=qbt hs (hdS k (hd0 s l.length root lo hi))
 rw[<-hA]
 have e0:hdAV (hd0 s l.length root lo hi)= .agg [i64 s,i64 l.length,bAV root,.agg [i64 lo,i64 hi],i64 0,.agg H.out16l]:=rfl
 have e1:hdAV (hdS k (hd0 s l.length root lo hi))= .agg [i64 s,i64 l.length,bAV root,.agg [i64 lo,i64 hi],i64 k.s,.agg (zac (hdS k (hd0 s l.length root lo hi)).sgn)]:=rfl
 rw[e1]at c4 ⊢
 rw[e0]at c4
 generalize (hdS k (hd0 s l.length root lo hi)).sgn=sg at *
 clear ok2 hok hA e1 e0
 have hLim:hs.length+1<=LIM:=by unfold LIM;omega
 have hLim0:0+1<=LIM:=by unfold LIM;omega
 have hLim1:0<=LIM:=by unfold LIM;omega
 rw[zad (fd:=fd18) rfl]
 by_cases hn:hs=[]
 . subst hn
   have hI:hds []=[]:=rfl
   rw[hI]at c5
   simp(maxSteps:=1000000) (disch:=apply zq;omega) only[go_sem,simprocAttr,↓Nat.reduceEqDiff,xx,fd18,m18,↓out16_eq,c1,c2,c3,c4,c5,hb,hL,hI,wJ,v1,w1,v2,w2,hLim0,hLim1,H.oo]
 . have hp0:hs.length≠0:=fun e=>hn (List.length_eq_zero_iff.1 e)
   have hlo:=hlo.resolve_left hn
   have h3:=h3.resolve_left hn
   subst h3
   have hx:=ziv (l:=hs) (i:=hs.length-1) (by omega)
   have ok3:=hh _ (zdn (show hs.length-1<hs.length by omega))
   have v3:=b16 ok3.r
   have v4:=b16 ok3.s
   have w3:=H.bytes_all (hdat hs (hs.length-1)).root
   have w4:=H.bytes_all (hdat hs (hs.length-1)).sgn
   generalize hdat hs (hs.length-1)=y at *
   clear ok3 hh
   obtain⟨m,hm⟩:∃m,hs.length=m+1:=⟨hs.length-1,by omega⟩
   rw[hm]at hx hLh hLim
   rw[wD]at hx
   simp(maxSteps:=1000000) (disch:=apply zq;omega) only[go_sem,simprocAttr,↓Nat.reduceEqDiff,xx,fd18,m18,↓out16_eq,c1,c2,c3,c4,c5,hb,hL,hLh,hx,v1,w1,v2,w2,v3,v4,w3,w4,hLim,wD,H.oo]
   rw[wE (by rw[wG,hLh];exact wB _)]
end
end Go.Proofs.S44.L
