/-
  Chapter 44: short texts and conditions. No condition.
-/
import Derived.Test.YtcddalfeicoedaaGreatDoorW44G9x3
set_option linter.all false
open List renaming getElem_of_mem->wA,getElem_mem->wB
open Nat renaming exists_eq_add_of_le'->wC
namespace Go.Proofs.S44.L
open Go Go.Ev Go.Proofs Go.Proofs.S44
open Go.Proofs.S44.H (strsAV zaa zai Sml GlK GlR zam zbn nsI zal zint zau encB zaw zaf)
variable {gl :Gl} {n:Nat}
abbrev ML :Nat:=9223372036854775807
def sat (l:List (List UInt8))(i:Nat):List UInt8:=l.getD i []
theorem zi6 {l:List (List UInt8)}{i:Nat}(h:i<l.length):(strsAV l)[i]? =some (.str (sat l i)):=by simp[H.strsAV,sat,h]
theorem zzj {l:List (List UInt8)}{i:Nat}(h:i<l.length):sat l i∈l:=by
 rw[show sat l i=l[i] by simp[sat,h]];exact wB h
theorem qay {l:List (List UInt8)}{x:List UInt8}(h:x∈l):∃i,i<l.length/\sat l i=x:=by
 obtain⟨i,hi,rfl⟩:=wA h
 exact⟨i,hi,by simp[sat,hi]⟩
def L98 :MC:=match m98 with| .seq _ (.seq (.seq _ (.block _ (.loop _ b))) _)=>b|_=>.skip
def S98 (f:Bool)(l:List (List UInt8))(k:Int)(i:Nat):St:=⟨[.set 5 (i64 i),.set 1 (i64 k),.set 0 (.lst f .sc (strsAV l))],[]⟩
def Fw (l:List (List UInt8))(k:Nat):Prop:=(∀x∈l,x.length<=200)/\l.length<=k
theorem zuo (h:1<=n)(f:Bool){l:List (List UInt8)}{k:Nat}(hk:k<=1000)(hl:l.length<=ML)(hb:∀x∈l,x.length<=ML) :
  ∃b:Bool,(b=true↔Fw l k)/\call gl tab n 98 [.lst f .sc (strsAV l),i64 k] []=some (.bool b,[],[]):=by
 obtain⟨d,rfl⟩:=wC h
 unfold ML at *
 have hs:∀i,i<l.length->(sat l i).length<=200->zbd [.slot 0,.slot 1,.slot 5] (evC gl (call gl tab d) L98 (S98 f l k i))=some (S98 f l k (i+1)):=fun i hi hp=>by
  have hx:=zi6 hi
  simp(disch:=apply zq;omega) only[go_sem,simprocAttr,↓Nat.reduceEqDiff,xx,L98,m98,S98,zaa,hx]
 have hf:∀i,i<l.length->¬(sat l i).length<=200->out1 4 (evC gl (call gl tab d) L98 (S98 f l k i))=some (.ret,.bool false):=fun i hi hp=>by
  have hx:=zi6 hi
  have:=hb _ (zzj hi)
  simp(disch:=apply zq;omega) only[go_sem,simprocAttr,↓Nat.reduceEqDiff,xx,L98,m98,S98,zaa,hx]
 rw[zad (fd:=fd98) rfl]
 rcases zbv (fun i=>(sat l i).length<=200) l.length with ha|⟨q,hq,hb',he⟩
 . refine⟨decide ((l.length:Int)<=k),?_,?_⟩
   . rw[decide_eq_true_eq]
     refine⟨fun h=>⟨fun x hx=> ?_,by omega⟩,fun h=>by have:=h.2;omega⟩
     obtain⟨i,hi,rfl⟩:=qay hx
     exact ha i hi
   have hs2:=fun i hi=>hs i hi (ha i hi)
   simp only[L98,m98]at hs2
   simp(disch:=apply zq;omega) only[go_sem,simprocAttr,↓Nat.reduceEqDiff,xx,fd98,m98]
   rw[zag (S98 f l k) l.length (by unfold LF;omega)]
   . simp(disch:=apply zq;omega) only[go_sem,simprocAttr,↓Nat.reduceEqDiff,xx,S98,zaa]
   . simp(disch:=apply zq;omega) only[go_sem,simprocAttr,↓Nat.reduceEqDiff,xx,S98,zaa]
   . exact hs2
   . simp(disch:=apply zq;omega) only[go_sem,simprocAttr,↓Nat.reduceEqDiff,xx,S98,zaa]
 . obtain⟨st,hst,hg⟩:=zcn (hf q hq he)
   have hs2:=fun i (hi:i<q)=>hs i (by omega) (hb' i hi)
   simp only[L98,m98]at hs2 hst
   refine⟨false,⟨(fun h=>by cases h),fun h=>absurd (h.1 _ (zzj hq)) he⟩,?_⟩
   simp(disch:=apply zq;omega) only[go_sem,simprocAttr,↓Nat.reduceEqDiff,xx,fd98,m98]
   rw[zag (S98 f l k) q (by unfold LF;omega),hst]
   . simp(disch:=apply zq;omega) only[go_sem,simprocAttr,↓Nat.reduceEqDiff,xx,hg]
   . simp(disch:=apply zq;omega) only[go_sem,simprocAttr,↓Nat.reduceEqDiff,xx,S98]
   . exact hs2
   . rw[hst];rfl
theorem zlf (h:2<=n)(f:Bool){l:List (List UInt8)}(hl:l.length<=ML)(hb:∀x∈l,x.length<=ML) :
  ∃b:Bool,(b=true↔Fw l 20)/\call gl tab n 44 [.lst f .sc (strsAV l)] []=some (.bool b,[],[]):=by
 obtain⟨d,rfl⟩:=wC h
 obtain⟨b,h1,c⟩:=@zuo gl (d+1) (by omega) f l 20 (by omega) hl hb
 refine⟨b,h1,?_⟩
 have e:((20:Nat):Int)=20:=rfl
 rw[e]at c
 rw[zad (fd:=fd44) rfl]
 simp(disch:=apply zq;omega) only[go_sem,simprocAttr,↓Nat.reduceEqDiff,xx,fd44,m44,c]
structure CdR (x:Cd):Prop where
 fr:R64 x.fr
 to:R64 x.to
 us:R64 x.us
 p:x.pat.length<=ML
 cl:x.cl.length<=ML
 cx:∀y∈x.cl,y.length<=ML
 co:x.co.length<=ML
 cy:∀y∈x.co,y.length<=ML
 si:x.si.length<=ML
 sx:∀y∈x.si,R64 y
structure CdS (x:Cd):Prop where
 p:x.pat.length<=200
 cl:Fw x.cl 20
 co:Fw x.co 20
 si:x.si.length<=64
theorem Fw.sml {l:List (List UInt8)}{k:Nat}(h:Fw l k)(hk:k<=1000):Sml l:=⟨by have:=h.2;omega,fun x hx=>by have:=h.1 x hx;omega⟩
theorem CdS.ok {x:Cd}(r:CdR x)(h:CdS x):CdOk x :=
 ⟨za3 r.fr (za3 r.to (za3 r.us zev (by simp)) (by simp)) (by simp),h.cl.sml (by omega),h.co.sml (by omega),⟨by have:=h.si;omega,r.sx⟩⟩
theorem zvn (h:3<=n){x:Cd}(hx:CdR x):∃b:Bool,(b=true->CdS x)/\call gl tab n 45 [cdAV x] []=some (.bool b,[],[]):=by
 obtain⟨d,rfl⟩:=wC h
 obtain⟨b1,h1,c1⟩:=@zlf gl (d+2) (by omega) false x.cl hx.cl hx.cx
 obtain⟨b2,h2,c2⟩:=@zlf gl (d+2) (by omega) false x.co hx.co hx.cy
 have hp:=hx.p
 have hs:=hx.si
 have hl:=zal x.si
 unfold ML at *
 refine⟨decide (x.pat.length<=200)&&(b1&&(b2&&decide (x.si.length<=64))),fun hb=> ?_,?_⟩
 . simp only[Bool.and_eq_true,decide_eq_true_eq]at hb
   exact⟨hb.1,h1.1 hb.2.1,h2.1 hb.2.2.1,hb.2.2.2⟩
 . clear h1 h2
   rw[zad (fd:=fd45) rfl]
   by_cases k1:x.pat.length<=200
   . rw[decide_eq_true k1]
     cases b1
     . simp(disch:=apply zq;omega) only[go_sem,simprocAttr,↓Nat.reduceEqDiff,xx,fd45,m45,c1,hl]
     . cases b2
       . simp(disch:=apply zq;omega) only[go_sem,simprocAttr,↓Nat.reduceEqDiff,xx,fd45,m45,c1,c2,hl]
       . by_cases k2:x.si.length<=64
         . rw[decide_eq_true k2];simp(disch:=apply zq;omega) only[go_sem,simprocAttr,↓Nat.reduceEqDiff,xx,fd45,m45,c1,c2,hl]
         . rw[decide_eq_false k2];simp(disch:=apply zq;omega) only[go_sem,simprocAttr,↓Nat.reduceEqDiff,xx,fd45,m45,c1,c2,hl]
   . rw[decide_eq_false k1];simp(disch:=apply zq;omega) only[go_sem,simprocAttr,↓Nat.reduceEqDiff,xx,fd45,m45,hl]
structure SpB (x:Sp):Prop where
 a:x.addr.length<=ML
 v:x.var.length<=ML
 t:x.tags.length<=ML
structure SpS (x:Sp):Prop where
 a:x.addr.length<=200
 v:x.var.length<=200
 t:x.tags.length<=200
theorem z9u (h:2<=n){x:Sp}(hx:SpOk x)(hb:SpB x):∃b:Bool,(b=true->SpS x)/\call gl tab n 46 [spAV x] []=some (.bool b,[],[]):=by
 obtain⟨d,rfl⟩:=wC h
 obtain⟨b,hbb,c⟩:=@zuo gl (d+1) (by omega) false [x.addr,x.var,x.tags] 3 (by omega) (show 3<=ML by decide) (fun y hy=>by
  simp at hy
  rcases hy with rfl|rfl|rfl
  . exact hb.a
  . exact hb.v
  . exact hb.t)
 have q0:=H.bytes_all x.sgn
 have q1:=H.bytes_all x.body
 have e:((3:Nat):Int)=3:=rfl
 rw[e]at c
 refine⟨b,fun hh=> ?_,?_⟩
 . have h1:=(hbb.1 hh).1
   exact⟨h1 _ (by simp),h1 _ (by simp),h1 _ (by simp)⟩
 . simp only[H.strsAV,List.map_cons,List.map_nil]at c
   rw[zad (fd:=fd46) rfl]
   simp(disch:=apply zq;omega) only[go_sem,simprocAttr,↓Nat.reduceEqDiff,xx,fd46,m46,c,hx.s,hx.r,q0,q1]
end Go.Proofs.S44.L
namespace Go.Proofs.S44.L
open Go Go.Ev Go.Proofs Go.Proofs.S44
open Go.Proofs.S44.H (strsAV zaa zai Sml GlK GlR zam zbn nsI zal zint zau encB zaw zaf)
variable {gl :Gl} {n:Nat}
structure VyR (x:Vy):Prop where
 h:x.h.length<=ML
 v:x.v.length<=ML
 w:∀y∈x.v,y.length<=ML
 d:x.d.length<=ML
structure VyS (x:Vy):Prop where
 h:x.h.length<=200
 v:Fw x.v 20
 d:x.d.length<=200
structure ReR (x:Re):Prop where
 i:(R64 x.site/\R64 x.seq/\R64 x.mo/\R64 x.fr/\R64 x.to/\R64 x.he/\R64 x.ca/\R64 x.us)/\R64 x.sx/\R64 x.lo/\R64 x.hi
 a:x.ad.length<=ML/\x.cl.length<=ML/\x.co.length<=ML
 h:x.hs.length<=ML
 hh:∀y∈x.hs,y.n.length<=ML/\y.v.length<=ML
 t:(R64 x.tk.cu/\R64 x.tk.se)/\x.tk.id.length<=ML/\x.tk.cs.length<=ML/\x.tk.sgn.length=16
 tc:∀y∈x.tk.cs,CdR y
 p:x.pol.length=16
 r:(R64 x.rl.fr/\R64 x.rl.sl/\R64 x.rl.dn/\R64 x.rl.ng/\R64 x.rl.co)/\(x.rl.nm.length<=ML/\x.rl.pat.length<=ML/\x.rl.pr.length<=ML)/\x.rl.tg.length<=ML/\x.rl.vy.length<=ML
 rt:∀y∈x.rl.tg,y.length<=ML
 rv:∀y∈x.rl.vy,VyR y
 ra:CdR x.rl.al
 s:SpOk x.sp
 sb:SpB x.sp
 d:x.dat.length=16
 l:LeOk x.le
structure ReS (x:Re):Prop where
 h:x.hs.length<=10
 c:x.tk.cs.length<=8
 v:x.rl.vy.length<=8
 t:Fw x.rl.tg 20
 a:CdS x.rl.al
 hh:∀y∈x.hs,y.n.length<=200/\y.v.length<=200
 cc:∀y∈x.tk.cs,CdS y
 vv:∀y∈x.rl.vy,VyS y
 w:Fw [x.ad,x.cl,x.co,x.tk.id,x.rl.nm,x.rl.pat,x.rl.pr] 20
 s:SpS x.sp
theorem R64.fl (b:Bool):R64 (fl b):=by
 cases b
 . exact⟨by decide,by decide⟩
 . exact⟨by decide,by decide⟩
theorem R64.nat {k:Nat}(h:k<=1000):R64 (k:Int):=by unfold R64;omega
theorem ReS.ok {x:Re}(r:ReR x)(h:ReS x):ReOk x where
 i:=by
  obtain⟨a1,a2,a3,a4,a5,a6,a7,a8⟩:=r.i.1
  have b1:=h.h
  have b2:=h.c
  have b3:=h.t.2
  have b4:=h.v
  refine⟨by simp,fun y hy=> ?_⟩
  simp only[nmS,List.mem_cons,List.not_mem_nil,or_false]at hy
  rcases hy with rfl|rfl|rfl|rfl|rfl|rfl|rfl|rfl|rfl|rfl|rfl|rfl
  . exact a1
  . exact a2
  . exact a3
  . exact a4
  . exact a5
  . exact a6
  . exact a7
  . exact a8
  . exact R64.nat (by omega)
  . exact R64.nat (by omega)
  . exact R64.nat (by omega)
  . exact R64.nat (by omega)
 a:=za3 r.i.2.1 (za3 r.i.2.2.1 (za3 r.i.2.2.2 zev (by simp)) (by simp)) (by simp)
 h:=h.h
 t:=⟨za3 r.t.1.1 (za3 r.t.1.2 zev (by simp)) (by simp),h.c,fun y hy=>(h.cc y hy).ok (r.tc y hy),r.t.2.2.2⟩
 p:=r.p
 r:=by
  obtain⟨a1,a2,a3,a4,a5⟩:=r.r.1
  exact⟨za3 a1 (za3 a2 (za3 a3 (za3 a4 (za3 (R64.fl _) (za3 a5 zev (by simp)) (by simp)) (by simp)) (by simp)) (by simp)) (by simp),h.t.2,h.v,fun y hy=>(h.vv y hy).v.sml (by omega),h.a.ok r.ra⟩
 s:=r.s
 d:=r.d
 l:=r.l
theorem qaj {N:Nat}{P:Nat->Bool->Prop}(h:∀i,i<N->∃b,P i b):∃B:Nat->Bool,∀i,i<N->P i (B i):=by
 classical
 exact⟨fun i=>if hi:i<N then(h i hi).choose else false,fun i hi=>by simp only[dif_pos hi];exact(h i hi).choose_spec⟩
def L9 :MC:=match m9 with| .seq _ (.seq _ (.seq (.seq _ (.block _ (.loop _ b))) _))=>b|_=>.skip
def L9b :MC:=match m9 with| .seq _ (.seq _ (.seq _ (.seq (.seq _ (.block _ (.loop _ b))) _)))=>b|_=>.skip
def L9c :MC:=match m9 with| .seq _ (.seq _ (.seq _ (.seq _ (.seq (.seq _ (.block _ (.loop _ b))) _))))=>b|_=>.skip
def S9 (x:Re)(k i:Nat):St:=⟨[.set k (i64 i),.set 1 (.ptr 1 [])],[(1,.fix sRe (reAV x))]⟩
section
variable {d :Nat} {x:Re}
theorem qhx (hl:x.hs.length<=10)(i:Nat)(hi:i<x.hs.length)(hp:(hat x.hs i).n.length<=200/\(hat x.hs i).v.length<=200) :
  zbd [.slot 1,.slot 3,.key 1] (evC gl (call gl tab d) L9 (S9 x 3 i))=some (S9 x 3 (i+1)):=by
 have hx:=zvc hi
 have hcl:=zdf x.hs
 obtain⟨p1,p2⟩:=hp
 rw[S9,S9]
 generalize hat x.hs i=y at *
 simp(disch:=apply zq;omega) only[go_sem,simprocAttr,↓Nat.reduceEqDiff,xx,L9,m9,hx,hcl]
theorem qlf (hl:x.hs.length<=10)(i:Nat)(hi:i<x.hs.length)(hb:(hat x.hs i).n.length<=ML/\(hat x.hs i).v.length<=ML)(hp:¬((hat x.hs i).n.length<=200/\(hat x.hs i).v.length<=200)) :
  out1 2 (evC gl (call gl tab d) L9 (S9 x 3 i))=some (.ret,.bool false):=by
 have hx:=zvc hi
 have hcl:=zdf x.hs
 obtain⟨p1,p2⟩:=hb
 unfold ML at *
 rw[S9]
 generalize hat x.hs i=y at *
 by_cases k:y.n.length<=200
 . have k2:¬y.v.length<=200:=fun h=>hp ⟨k,h⟩
   simp(disch:=apply zq;omega) only[go_sem,simprocAttr,↓Nat.reduceEqDiff,xx,L9,m9,hx,hcl]
 . simp(disch:=apply zq;omega) only[go_sem,simprocAttr,↓Nat.reduceEqDiff,xx,L9,m9,hx,hcl]
theorem qdw (hl:x.tk.cs.length<=8)(i:Nat)(hi:i<x.tk.cs.length){b:Bool}(c:call gl tab d 45 [cdAV (cat x.tk.cs i)] []=some (.bool b,[],[]))(hb:b=true) :
  zbd [.slot 1,.slot 4,.key 1] (evC gl (call gl tab d) L9b (S9 x 4 i))=some (S9 x 4 (i+1)):=by
 have hx:=zv4 hi
 have hcl:=zc0 x.tk.cs
 subst hb
 rw[S9,S9]
 generalize cat x.tk.cs i=y at *
 simp(disch:=apply zq;omega) only[go_sem,simprocAttr,↓Nat.reduceEqDiff,xx,L9b,m9,hx,hcl,c]
theorem qf5 (hl:x.tk.cs.length<=8)(i:Nat)(hi:i<x.tk.cs.length){b:Bool}(c:call gl tab d 45 [cdAV (cat x.tk.cs i)] []=some (.bool b,[],[]))(hb:¬b=true) :
  out1 2 (evC gl (call gl tab d) L9b (S9 x 4 i))=some (.ret,.bool false):=by
 have hx:=zv4 hi
 have hcl:=zc0 x.tk.cs
 rw[Bool.not_eq_true]at hb
 subst hb
 rw[S9]
 generalize cat x.tk.cs i=y at *
 simp(disch:=apply zq;omega) only[go_sem,simprocAttr,↓Nat.reduceEqDiff,xx,L9b,m9,hx,hcl,c]
theorem qdv (hl:x.rl.vy.length<=8)(i:Nat)(hi:i<x.rl.vy.length){b:Bool}(c:call gl tab d 44 [.lst false .sc (strsAV (vat x.rl.vy i).v)] []=some (.bool b,[],[]))(hb:b=true/\(vat x.rl.vy i).h.length<=200/\(vat x.rl.vy i).d.length<=200) :
  zbd [.slot 1,.slot 6,.key 1] (evC gl (call gl tab d) L9c (S9 x 6 i))=some (S9 x 6 (i+1)):=by
 have hx:=zub hi
 have hcl:=zcy x.rl.vy
 obtain⟨hb,p1,p2⟩:=hb
 subst hb
 rw[S9,S9]
 generalize vat x.rl.vy i=y at *
 simp(disch:=apply zq;omega) only[go_sem,simprocAttr,↓Nat.reduceEqDiff,xx,L9c,m9,hx,hcl,c]
theorem qf4 (hl:x.rl.vy.length<=8)(i:Nat)(hi:i<x.rl.vy.length)(hr:VyR (vat x.rl.vy i)){b:Bool}(c:call gl tab d 44 [.lst false .sc (strsAV (vat x.rl.vy i).v)] []=some (.bool b,[],[]))(hb:¬(b=true/\(vat x.rl.vy i).h.length<=200/\(vat x.rl.vy i).d.length<=200)) :
  out1 2 (evC gl (call gl tab d) L9c (S9 x 6 i))=some (.ret,.bool false):=by
 have hx:=zub hi
 have hcl:=zcy x.rl.vy
 have q1:=hr.h
 have q2:=hr.d
 unfold ML at *
 rw[S9]
 clear hr
 generalize vat x.rl.vy i=y at *
 cases b
 . simp(disch:=apply zq;omega) only[go_sem,simprocAttr,↓Nat.reduceEqDiff,xx,L9c,m9,hx,hcl,c]
 . by_cases k:y.h.length<=200
   . have k2:¬y.d.length<=200:=fun h=>hb ⟨rfl,k,h⟩
     clear hb
     simp(disch:=apply zq;omega) only[go_sem,simprocAttr,↓Nat.reduceEqDiff,xx,L9c,m9,hx,hcl,c]
   . clear hb
     simp(disch:=apply zq;omega) only[go_sem,simprocAttr,↓Nat.reduceEqDiff,xx,L9c,m9,hx,hcl,c]
end
end Go.Proofs.S44.L
namespace Go.Proofs.S44.L
open Go Go.Ev Go.Proofs Go.Proofs.S44
open Go.Proofs.S44.H (strsAV zaa zai Sml GlK GlR zam zbn nsI zal zint zau encB zaw zaf)
variable {gl :Gl} {n:Nat}
theorem qbp {l:List Hr}{i:Nat}(h:i<l.length):hat l i∈l:=by
 rw[show hat l i=l[i] by simp[hat,h]];exact wB h
theorem qaz {l:List Hr}{x:Hr}(h:x∈l):∃i,i<l.length/\hat l i=x:=by
 obtain⟨i,hi,rfl⟩:=wA h
 exact⟨i,hi,by simp[hat,hi]⟩
theorem qa0 {l:List Cd}{x:Cd}(h:x∈l):∃i,i<l.length/\cat l i=x:=by
 obtain⟨i,hi,rfl⟩:=wA h
 exact⟨i,hi,by simp[cat,hi]⟩
theorem qax {l:List Vy}{x:Vy}(h:x∈l):∃i,i<l.length/\vat l i=x:=by
 obtain⟨i,hi,rfl⟩:=wA h
 exact⟨i,hi,by simp[vat,hi]⟩
theorem z8i (h:5<=n){x:Re}(hx:ReR x):∃b:Bool,(b=true->ReS x)/\call gl tab n 9 [reAV x] []=some (.bool b,[],[]):=by
 obtain⟨d,rfl⟩:=wC h
 have u1:=b16 hx.d
 have u2:=b16 hx.p
 have u3:=b16 hx.t.2.2.2
 have u4:=b16 hx.s.r
 have u5:=b16 hx.s.s
 have u6:=b16 hx.l.s
 have w1:=H.bytes_all x.dat
 have w2:=H.bytes_all x.pol
 have w3:=H.bytes_all x.tk.sgn
 have w4:=H.bytes_all x.sp.body
 have w5:=H.bytes_all x.sp.sgn
 have w6:=H.bytes_all x.le.sgn
 have g1:=zdf x.hs
 have g2:=zc0 x.tk.cs
 have g3:=zaa x.rl.tg
 have g4:=zcy x.rl.vy
 obtain⟨bt,ht,ct⟩:=@zlf gl (d+4) (by omega) false x.rl.tg hx.r.2.2.1 hx.rt
 obtain⟨ba,hba,ca⟩:=@zvn gl (d+4) (by omega) _ hx.ra
 obtain⟨bw,hw,cw⟩:=@zlf gl (d+4) (by omega) false [x.ad,x.cl,x.co,x.tk.id,x.rl.nm,x.rl.pat,x.rl.pr] (show 7<=ML by decide) (fun y hy=>by
  simp at hy
  rcases hy with rfl|rfl|rfl|rfl|rfl|rfl|rfl
  . exact hx.a.1
  . exact hx.a.2.1
  . exact hx.a.2.2
  . exact hx.t.2.1
  . exact hx.r.2.1.1
  . exact hx.r.2.1.2.1
  . exact hx.r.2.1.2.2)
 have ew:strsAV [x.ad,x.cl,x.co,x.tk.id,x.rl.nm,x.rl.pat,x.rl.pr]=[.str x.ad,.str x.cl,.str x.co,.str x.tk.id,.str x.rl.nm,.str x.rl.pat,.str x.rl.pr]:=rfl
 rw[ew]at cw
 obtain⟨bs,hs,cs⟩:=@z9u gl (d+4) (by omega) _ hx.s hx.sb
 obtain⟨B,hB⟩:=qaj (N:=x.tk.cs.length) fun i hi=>@zvn gl (d+4) (by omega) _ (hx.tc _ (zt0 hi))
 obtain⟨V,hV⟩:=qaj (N:=x.rl.vy.length) fun i hi=>@zlf gl (d+4) (by omega) false (vat x.rl.vy i).v (hx.rv _ (zk5 hi)).v (hx.rv _ (zk5 hi)).w
 have h1:=hx.h
 have h2:=hx.t.2.2.1
 have h3:=hx.r.2.2.2
 unfold ML at h1 h2 h3
 rw[zad (fd:=fd9) rfl]
 by_cases k1:x.hs.length<=10
 case neg=>exact⟨false,(fun h=>by cases h),by simp(disch:=apply zq;omega) only[go_sem,simprocAttr,↓Nat.reduceEqDiff,xx,fd9,m9,u1,u2,u3,u4,u5,u6,w1,w2,w3,w4,w5,w6,g1,g2,g3,g4]⟩
 by_cases k2:x.tk.cs.length<=8
 case neg=>exact⟨false,(fun h=>by cases h),by simp(disch:=apply zq;omega) only[go_sem,simprocAttr,↓Nat.reduceEqDiff,xx,fd9,m9,u1,u2,u3,u4,u5,u6,w1,w2,w3,w4,w5,w6,g1,g2,g3,g4]⟩
 by_cases k3:x.rl.vy.length<=8
 case neg=>exact⟨false,(fun h=>by cases h),by simp(disch:=apply zq;omega) only[go_sem,simprocAttr,↓Nat.reduceEqDiff,xx,fd9,m9,u1,u2,u3,u4,u5,u6,w1,w2,w3,w4,w5,w6,g1,g2,g3,g4]⟩
 cases bt
 case false=>exact⟨false,(fun h=>by cases h),by simp(disch:=apply zq;omega) only[go_sem,simprocAttr,↓Nat.reduceEqDiff,xx,fd9,m9,u1,u2,u3,u4,u5,u6,w1,w2,w3,w4,w5,w6,g1,g2,g3,g4,ct]⟩
 cases ba
 case false=>exact⟨false,(fun h=>by cases h),by simp(disch:=apply zq;omega) only[go_sem,simprocAttr,↓Nat.reduceEqDiff,xx,fd9,m9,u1,u2,u3,u4,u5,u6,w1,w2,w3,w4,w5,w6,g1,g2,g3,g4,ct,ca]⟩
 have sa:=fun i hi hp=>@qhx gl (d+4) x k1 i hi hp
 have fa:=fun i hi hp=>@qlf gl (d+4) x k1 i hi (hx.hh _ (qbp hi)) hp
 have sb:=fun i hi hp=>@qdw gl (d+4) x k2 i hi _ (hB i hi).2 hp
 have fb:=fun i hi hp=>@qf5 gl (d+4) x k2 i hi _ (hB i hi).2 hp
 have sc:=fun i hi hp=>@qdv gl (d+4) x k3 i hi _ (hV i hi).2 hp
 have fc:=fun i hi hp=>@qf4 gl (d+4) x k3 i hi (hx.rv _ (zk5 hi)) _ (hV i hi).2 hp
 rcases zbv (fun i=>(hat x.hs i).n.length<=200/\(hat x.hs i).v.length<=200) x.hs.length with ha|⟨q,hq,hb',he⟩
 case inr =>
  obtain⟨st,hst,hg⟩:=zcn (fa q hq he)
  have hs2:=fun i (hi:i<q)=>sa i (by omega) (hb' i hi)
  simp only[L9,m9]at hs2 hst
  refine⟨false,(fun h=>by cases h),?_⟩
  simp(disch:=apply zq;omega) only[go_sem,simprocAttr,↓Nat.reduceEqDiff,xx,fd9,m9,u1,u2,u3,u4,u5,u6,w1,w2,w3,w4,w5,w6,g1,g2,g3,g4,ct,ca]
  rw[zag (S9 x 3) q (by unfold LF;omega),hst]
  . simp(disch:=apply zq;omega) only[go_sem,simprocAttr,↓Nat.reduceEqDiff,xx,hg]
  . simp(disch:=apply zq;omega) only[go_sem,simprocAttr,↓Nat.reduceEqDiff,xx,S9]
  . exact hs2
  . rw[hst];rfl
 have sa2:=fun i hi=>sa i hi (ha i hi)
 simp only[L9,m9]at sa2
 rcases zbv (fun i=>B i=true) x.tk.cs.length with hb|⟨q,hq,hb',he⟩
 case inr =>
  obtain⟨st,hst,hg⟩:=zcn (fb q hq he)
  have hs2:=fun i (hi:i<q)=>sb i (by omega) (hb' i hi)
  simp only[L9b,m9]at hs2 hst
  refine⟨false,(fun h=>by cases h),?_⟩
  simp(disch:=apply zq;omega) only[go_sem,simprocAttr,↓Nat.reduceEqDiff,xx,fd9,m9,u1,u2,u3,u4,u5,u6,w1,w2,w3,w4,w5,w6,g1,g2,g3,g4,ct,ca]
  rw[zag (S9 x 3) x.hs.length (by unfold LF;omega)]
  rotate_left
  . simp(disch:=apply zq;omega) only[go_sem,simprocAttr,↓Nat.reduceEqDiff,xx,S9]
  . exact sa2
  . simp(disch:=apply zq;omega) only[go_sem,simprocAttr,↓Nat.reduceEqDiff,xx,S9,g1]
  rw[S9]
  simp(disch:=apply zq;omega) only[go_sem,simprocAttr,↓Nat.reduceEqDiff,xx,g1]
  rw[zag (S9 x 4) q (by unfold LF;omega),hst]
  . simp(disch:=apply zq;omega) only[go_sem,simprocAttr,↓Nat.reduceEqDiff,xx,hg]
  . simp(disch:=apply zq;omega) only[go_sem,simprocAttr,↓Nat.reduceEqDiff,xx,S9]
  . exact hs2
  . rw[hst];rfl
 have sb2:=fun i hi=>sb i hi (hb i hi)
 simp only[L9b,m9]at sb2
 rcases zbv (fun i=>V i=true/\(vat x.rl.vy i).h.length<=200/\(vat x.rl.vy i).d.length<=200) x.rl.vy.length with hc|⟨q,hq,hb',he⟩
 case inr =>
  obtain⟨st,hst,hg⟩:=zcn (fc q hq he)
  have hs2:=fun i (hi:i<q)=>sc i (by omega) (hb' i hi)
  simp only[L9c,m9]at hs2 hst
  refine⟨false,(fun h=>by cases h),?_⟩
  simp(disch:=apply zq;omega) only[go_sem,simprocAttr,↓Nat.reduceEqDiff,xx,fd9,m9,u1,u2,u3,u4,u5,u6,w1,w2,w3,w4,w5,w6,g1,g2,g3,g4,ct,ca]
  rw[zag (S9 x 3) x.hs.length (by unfold LF;omega)]
  rotate_left
  . simp(disch:=apply zq;omega) only[go_sem,simprocAttr,↓Nat.reduceEqDiff,xx,S9]
  . exact sa2
  . simp(disch:=apply zq;omega) only[go_sem,simprocAttr,↓Nat.reduceEqDiff,xx,S9,g1]
  rw[S9]
  simp(disch:=apply zq;omega) only[go_sem,simprocAttr,↓Nat.reduceEqDiff,xx,g1]
  rw[zag (S9 x 4) x.tk.cs.length (by unfold LF;omega)]
  rotate_left
  . simp(disch:=apply zq;omega) only[go_sem,simprocAttr,↓Nat.reduceEqDiff,xx,S9]
  . exact sb2
  . simp(disch:=apply zq;omega) only[go_sem,simprocAttr,↓Nat.reduceEqDiff,xx,S9,g2]
  rw[S9]
  simp(disch:=apply zq;omega) only[go_sem,simprocAttr,↓Nat.reduceEqDiff,xx,g2]
  rw[zag (S9 x 6) q (by unfold LF;omega),hst]
  . simp(disch:=apply zq;omega) only[go_sem,simprocAttr,↓Nat.reduceEqDiff,xx,hg]
  . simp(disch:=apply zq;omega) only[go_sem,simprocAttr,↓Nat.reduceEqDiff,xx,S9]
  . exact hs2
  . rw[hst];rfl
 have sc2:=fun i hi=>sc i hi (hc i hi)
 simp only[L9c,m9]at sc2
 refine⟨bw&&bs,fun hb2=> ?_,?_⟩
 . rw[Bool.and_eq_true]at hb2
   refine⟨k1,k2,k3,ht.1 rfl,hba rfl,fun y hy=> ?_,fun y hy=> ?_,fun y hy=> ?_,hw.1 hb2.1,hs hb2.2⟩
   . obtain⟨i,hi,rfl⟩:=qaz hy
     exact ha i hi
   . obtain⟨i,hi,rfl⟩:=qa0 hy
     exact(hB i hi).1 (hb i hi)
   . obtain⟨i,hi,rfl⟩:=qax hy
     exact⟨(hc i hi).2.1,(hV i hi).1.1 (hc i hi).1,(hc i hi).2.2⟩
 . simp(disch:=apply zq;omega) only[go_sem,simprocAttr,↓Nat.reduceEqDiff,xx,fd9,m9,u1,u2,u3,u4,u5,u6,w1,w2,w3,w4,w5,w6,g1,g2,g3,g4,ct,ca]
   rw[zag (S9 x 3) x.hs.length (by unfold LF;omega)]
   rotate_left
   . simp(disch:=apply zq;omega) only[go_sem,simprocAttr,↓Nat.reduceEqDiff,xx,S9]
   . exact sa2
   . simp(disch:=apply zq;omega) only[go_sem,simprocAttr,↓Nat.reduceEqDiff,xx,S9,g1]
   rw[S9]
   simp(disch:=apply zq;omega) only[go_sem,simprocAttr,↓Nat.reduceEqDiff,xx,g1]
   rw[zag (S9 x 4) x.tk.cs.length (by unfold LF;omega)]
   rotate_left
   . simp(disch:=apply zq;omega) only[go_sem,simprocAttr,↓Nat.reduceEqDiff,xx,S9]
   . exact sb2
   . simp(disch:=apply zq;omega) only[go_sem,simprocAttr,↓Nat.reduceEqDiff,xx,S9,g2]
   rw[S9]
   simp(disch:=apply zq;omega) only[go_sem,simprocAttr,↓Nat.reduceEqDiff,xx,g2]
   rw[zag (S9 x 6) x.rl.vy.length (by unfold LF;omega)]
   rotate_left
   . simp(disch:=apply zq;omega) only[go_sem,simprocAttr,↓Nat.reduceEqDiff,xx,S9]
   . exact sc2
   . simp(disch:=apply zq;omega) only[go_sem,simprocAttr,↓Nat.reduceEqDiff,xx,S9,g4]
   rw[S9]
   cases bw
   . simp(disch:=apply zq;omega) only[go_sem,simprocAttr,↓Nat.reduceEqDiff,xx,g4,cw,cs,u1,u2,u3,u4,u5,u6,w1,w2,w3,w4,w5,w6]
   . simp(disch:=apply zq;omega) only[go_sem,simprocAttr,↓Nat.reduceEqDiff,xx,g4,cw,cs,u1,u2,u3,u4,u5,u6,w1,w2,w3,w4,w5,w6]
end Go.Proofs.S44.L
