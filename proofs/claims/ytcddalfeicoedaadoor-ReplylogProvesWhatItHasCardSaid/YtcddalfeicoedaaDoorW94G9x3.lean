/-
  Chapter 44: short texts and conditions. No condition.
-/
import Derived.Test.YtcddalfeicoedaaDoorW94G8x3
set_option linter.all false
open Nat renaming exists_eq_add_of_le'->wA
namespace Go.Proofs.S94.L
open Go Go.Ev Go.Proofs Go.Proofs.S94
open Go.Proofs.S94.H (strsAV zaa zaj Sml GlK GlR zam zbh nsI zak zint zaw encB zaz zaf)
variable {gl :Gl} {n:Nat}
abbrev ML :Nat:=9223372036854775807
def sat (l:List (List UInt8))(i:Nat):List UInt8:=l.getD i []
theorem zyd {l:List (List UInt8)}{i:Nat}(h:i<l.length):(strsAV l)[i]? =some (.str (sat l i)):=by simp[H.strsAV,sat,h]
theorem zyr {l:List (List UInt8)}{i:Nat}(h:i<l.length):sat l i∈l:=by
 rw[show sat l i=l[i] by simp[sat,h]];exact List.getElem_mem h
theorem z8u {l:List (List UInt8)}{x:List UInt8}(h:x∈l):∃i,i<l.length/\sat l i=x:=by
 obtain⟨i,hi,rfl⟩:=List.getElem_of_mem h
 exact⟨i,hi,by simp[sat,hi]⟩
def L98 :MC:=match m42 with| .seq _ (.seq (.seq _ (.block _ (.loop _ b))) _)=>b|_=>.skip
def S98 (f:Bool)(l:List (List UInt8))(k:Int)(i:Nat):St:=⟨[.set 5 (i64 i),.set 1 (i64 k),.set 0 (.lst f .sc (strsAV l))],[]⟩
def Fw (l:List (List UInt8))(k:Nat):Prop:=(∀x∈l,x.length<=200)/\l.length<=k
theorem zt9 (h:1<=n)(f:Bool){l:List (List UInt8)}{k:Nat}(hk:k<=1000)(hl:l.length<=ML)(hb:∀x∈l,x.length<=ML) :
  ∃b:Bool,(b=true↔Fw l k)/\call gl tab n 42 [.lst f .sc (strsAV l),i64 k] []=some (.bool b,[],[]):=by
 obtain⟨d,rfl⟩:=wA h
 unfold ML at *
 have hs:∀i,i<l.length->(sat l i).length<=200->zb1 [.slot 0,.slot 1,.slot 5] (evC gl (call gl tab d) L98 (S98 f l k i))=some (S98 f l k (i+1)):=fun i hi hp=>by
  have hx:=zyd hi
  simp(disch:=apply zq;omega) only[go_sem,simprocAttr,↓Nat.reduceEqDiff,xx,L98,m42,S98,zaa,hx]
 have hf:∀i,i<l.length->¬(sat l i).length<=200->out1 4 (evC gl (call gl tab d) L98 (S98 f l k i))=some (.ret,.bool false):=fun i hi hp=>by
  have hx:=zyd hi
  have:=hb _ (zyr hi)
  simp(disch:=apply zq;omega) only[go_sem,simprocAttr,↓Nat.reduceEqDiff,xx,L98,m42,S98,zaa,hx]
 rw[zae (fd:=fd42) rfl]
 rcases zce (fun i=>(sat l i).length<=200) l.length with ha|⟨q,hq,hb',he⟩
 . refine⟨decide ((l.length:Int)<=k),?_,?_⟩
   . rw[decide_eq_true_eq]
     refine⟨fun h=>⟨fun x hx=> ?_,by omega⟩,fun h=>by have:=h.2;omega⟩
     obtain⟨i,hi,rfl⟩:=z8u hx
     exact ha i hi
   have hs2:=fun i hi=>hs i hi (ha i hi)
   simp only[L98,m42]at hs2
   simp(disch:=apply zq;omega) only[go_sem,simprocAttr,↓Nat.reduceEqDiff,xx,fd42,m42]
   rw[zao (S98 f l k) l.length (by unfold LF;omega)]
   . simp(disch:=apply zq;omega) only[go_sem,simprocAttr,↓Nat.reduceEqDiff,xx,S98,zaa]
   . simp(disch:=apply zq;omega) only[go_sem,simprocAttr,↓Nat.reduceEqDiff,xx,S98,zaa]
   . exact hs2
   . simp(disch:=apply zq;omega) only[go_sem,simprocAttr,↓Nat.reduceEqDiff,xx,S98,zaa]
 . obtain⟨st,hst,hg⟩:=zds (hf q hq he)
   have hs2:=fun i (hi:i<q)=>hs i (by omega) (hb' i hi)
   simp only[L98,m42]at hs2 hst
   refine⟨false,⟨(fun h=>by cases h),fun h=>absurd (h.1 _ (zyr hq)) he⟩,?_⟩
   simp(disch:=apply zq;omega) only[go_sem,simprocAttr,↓Nat.reduceEqDiff,xx,fd42,m42]
   rw[zao (S98 f l k) q (by unfold LF;omega),hst]
   . simp(disch:=apply zq;omega) only[go_sem,simprocAttr,↓Nat.reduceEqDiff,xx,hg]
   . simp(disch:=apply zq;omega) only[go_sem,simprocAttr,↓Nat.reduceEqDiff,xx,S98]
   . exact hs2
   . rw[hst];rfl
theorem zkz (h:2<=n)(f:Bool){l:List (List UInt8)}(hl:l.length<=ML)(hb:∀x∈l,x.length<=ML) :
  ∃b:Bool,(b=true↔Fw l 20)/\call gl tab n 18 [.lst f .sc (strsAV l)] []=some (.bool b,[],[]):=by
 obtain⟨d,rfl⟩:=wA h
 obtain⟨b,h1,c⟩:=@zt9 gl (d+1) (by omega) f l 20 (by omega) hl hb
 refine⟨b,h1,?_⟩
 have e:((20:Nat):Int)=20:=rfl
 rw[e]at c
 rw[zae (fd:=fd18) rfl]
 simp(disch:=apply zq;omega) only[go_sem,simprocAttr,↓Nat.reduceEqDiff,xx,fd18,m18,c]
structure CdR (x:Cd):Prop where
 fr:R64 x.fr
 to:R64 x.to
 us:R64 x.us
 p:x.pat.length<=ML
 cl:x.cl.length<=ML
 cx:∀y∈x.cl,y.length<=ML
 co:x.co.length<=ML
 cy:∀y∈x.co,y.length<=ML
 si:x.si.length<=ML
 sx:∀y∈x.si,R64 y
structure CdS (x:Cd):Prop where
 p:x.pat.length<=200
 cl:Fw x.cl 20
 co:Fw x.co 20
 si:x.si.length<=64
theorem Fw.sml {l:List (List UInt8)}{k:Nat}(h:Fw l k)(hk:k<=1000):Sml l:=⟨by have:=h.2;omega,fun x hx=>by have:=h.1 x hx;omega⟩
theorem CdS.ok {x:Cd}(r:CdR x)(h:CdS x):CdOk x :=
 ⟨zbn r.fr (zbn r.to (zbn r.us zgv (by simp)) (by simp)) (by simp),h.cl.sml (by omega),h.co.sml (by omega),⟨by have:=h.si;omega,r.sx⟩⟩
theorem zu7 (h:3<=n){x:Cd}(hx:CdR x):∃b:Bool,(b=true->CdS x)/\call gl tab n 19 [cdAV x] []=some (.bool b,[],[]):=by
 obtain⟨d,rfl⟩:=wA h
 obtain⟨b1,h1,c1⟩:=@zkz gl (d+2) (by omega) false x.cl hx.cl hx.cx
 obtain⟨b2,h2,c2⟩:=@zkz gl (d+2) (by omega) false x.co hx.co hx.cy
 have hp:=hx.p
 have hs:=hx.si
 have hl:=zak x.si
 unfold ML at *
 refine⟨decide (x.pat.length<=200)&&(b1&&(b2&&decide (x.si.length<=64))),fun hb=> ?_,?_⟩
 . simp only[Bool.and_eq_true,decide_eq_true_eq]at hb
   exact⟨hb.1,h1.1 hb.2.1,h2.1 hb.2.2.1,hb.2.2.2⟩
 . clear h1 h2
   rw[zae (fd:=fd19) rfl]
   by_cases k1:x.pat.length<=200
   . rw[decide_eq_true k1]
     cases b1
     . simp(disch:=apply zq;omega) only[go_sem,simprocAttr,↓Nat.reduceEqDiff,xx,fd19,m19,c1,hl]
     . cases b2
       . simp(disch:=apply zq;omega) only[go_sem,simprocAttr,↓Nat.reduceEqDiff,xx,fd19,m19,c1,c2,hl]
       . by_cases k2:x.si.length<=64
         . rw[decide_eq_true k2];simp(disch:=apply zq;omega) only[go_sem,simprocAttr,↓Nat.reduceEqDiff,xx,fd19,m19,c1,c2,hl]
         . rw[decide_eq_false k2];simp(disch:=apply zq;omega) only[go_sem,simprocAttr,↓Nat.reduceEqDiff,xx,fd19,m19,c1,c2,hl]
   . rw[decide_eq_false k1];simp(disch:=apply zq;omega) only[go_sem,simprocAttr,↓Nat.reduceEqDiff,xx,fd19,m19,hl]
structure SpB (x:Sp):Prop where
 a:x.addr.length<=ML
 v:x.var.length<=ML
 t:x.tags.length<=ML
structure SpS (x:Sp):Prop where
 a:x.addr.length<=200
 v:x.var.length<=200
 t:x.tags.length<=200
theorem z7z (h:2<=n){x:Sp}(hx:SpOk x)(hb:SpB x):∃b:Bool,(b=true->SpS x)/\call gl tab n 20 [spAV x] []=some (.bool b,[],[]):=by
 obtain⟨d,rfl⟩:=wA h
 obtain⟨b,hbb,c⟩:=@zt9 gl (d+1) (by omega) false [x.addr,x.var,x.tags] 3 (by omega) (show 3<=ML by decide) (fun y hy=>by
  simp at hy
  rcases hy with rfl|rfl|rfl
  . exact hb.a
  . exact hb.v
  . exact hb.t)
 have q0:=H.bytes_all x.sgn
 have q1:=H.bytes_all x.body
 have e:((3:Nat):Int)=3:=rfl
 rw[e]at c
 refine⟨b,fun hh=> ?_,?_⟩
 . have h1:=(hbb.1 hh).1
   exact⟨h1 _ (by simp),h1 _ (by simp),h1 _ (by simp)⟩
 . simp only[H.strsAV,List.map_cons,List.map_nil]at c
   rw[zae (fd:=fd20) rfl]
   simp(disch:=apply zq;omega) only[go_sem,simprocAttr,↓Nat.reduceEqDiff,xx,fd20,m20,c,hx.s,hx.r,q0,q1]
end Go.Proofs.S94.L
namespace Go.Proofs.S94.L
open Go Go.Ev Go.Proofs Go.Proofs.S94
open Go.Proofs.S94.H (strsAV zaa zaj Sml GlK GlR zam zbh nsI zak zint zaw encB zaz zaf)
variable {gl :Gl} {n:Nat}
structure VyR (x:Vy):Prop where
 h:x.h.length<=ML
 v:x.v.length<=ML
 w:∀y∈x.v,y.length<=ML
 d:x.d.length<=ML
structure VyS (x:Vy):Prop where
 h:x.h.length<=200
 v:Fw x.v 20
 d:x.d.length<=200
structure ReR (x:Re):Prop where
 i:(R64 x.site/\R64 x.seq/\R64 x.mo/\R64 x.fr/\R64 x.to/\R64 x.he/\R64 x.ca/\R64 x.us)/\R64 x.sx/\R64 x.lo/\R64 x.hi
 a:x.ad.length<=ML/\x.cl.length<=ML/\x.co.length<=ML
 h:x.hs.length<=ML
 hh:∀y∈x.hs,y.n.length<=ML/\y.v.length<=ML
 t:(R64 x.tk.cu/\R64 x.tk.se)/\x.tk.id.length<=ML/\x.tk.cs.length<=ML/\x.tk.sgn.length=16
 tc:∀y∈x.tk.cs,CdR y
 p:x.pol.length=16
 r:(R64 x.rl.fr/\R64 x.rl.sl/\R64 x.rl.dn/\R64 x.rl.ng/\R64 x.rl.co)/\(x.rl.nm.length<=ML/\x.rl.pat.length<=ML/\x.rl.pr.length<=ML)/\x.rl.tg.length<=ML/\x.rl.vy.length<=ML
 rt:∀y∈x.rl.tg,y.length<=ML
 rv:∀y∈x.rl.vy,VyR y
 ra:CdR x.rl.al
 s:SpOk x.sp
 sb:SpB x.sp
 d:x.dat.length=16
 l:LeOk x.le
structure ReS (x:Re):Prop where
 h:x.hs.length<=10
 c:x.tk.cs.length<=8
 v:x.rl.vy.length<=8
 t:Fw x.rl.tg 20
 a:CdS x.rl.al
 hh:∀y∈x.hs,y.n.length<=200/\y.v.length<=200
 cc:∀y∈x.tk.cs,CdS y
 vv:∀y∈x.rl.vy,VyS y
 w:Fw [x.ad,x.cl,x.co,x.tk.id,x.rl.nm,x.rl.pat,x.rl.pr] 20
 s:SpS x.sp
theorem R64.fl (b:Bool):R64 (fl b):=by
 cases b
 . exact⟨by decide,by decide⟩
 . exact⟨by decide,by decide⟩
theorem R64.nat {k:Nat}(h:k<=1000):R64 (k:Int):=by unfold R64;omega
theorem ReS.ok {x:Re}(r:ReR x)(h:ReS x):ReOk x where
 i:=by
  obtain⟨a1,a2,a3,a4,a5,a6,a7,a8⟩:=r.i.1
  have b1:=h.h
  have b2:=h.c
  have b3:=h.t.2
  have b4:=h.v
  refine⟨by simp,fun y hy=> ?_⟩
  simp only[nmS,List.mem_cons,List.not_mem_nil,or_false]at hy
  rcases hy with rfl|rfl|rfl|rfl|rfl|rfl|rfl|rfl|rfl|rfl|rfl|rfl
  . exact a1
  . exact a2
  . exact a3
  . exact a4
  . exact a5
  . exact a6
  . exact a7
  . exact a8
  . exact R64.nat (by omega)
  . exact R64.nat (by omega)
  . exact R64.nat (by omega)
  . exact R64.nat (by omega)
 a:=zbn r.i.2.1 (zbn r.i.2.2.1 (zbn r.i.2.2.2 zgv (by simp)) (by simp)) (by simp)
 h:=h.h
 t:=⟨zbn r.t.1.1 (zbn r.t.1.2 zgv (by simp)) (by simp),h.c,fun y hy=>(h.cc y hy).ok (r.tc y hy),r.t.2.2.2⟩
 p:=r.p
 r:=by
  obtain⟨a1,a2,a3,a4,a5⟩:=r.r.1
  exact⟨zbn a1 (zbn a2 (zbn a3 (zbn a4 (zbn (R64.fl _) (zbn a5 zgv (by simp)) (by simp)) (by simp)) (by simp)) (by simp)) (by simp),h.t.2,h.v,fun y hy=>(h.vv y hy).v.sml (by omega),h.a.ok r.ra⟩
 s:=r.s
 d:=r.d
 l:=r.l
theorem z8h {N:Nat}{P:Nat->Bool->Prop}(h:∀i,i<N->∃b,P i b):∃B:Nat->Bool,∀i,i<N->P i (B i):=by
 classical
 exact⟨fun i=>if hi:i<N then(h i hi).choose else false,fun i hi=>by simp only[dif_pos hi];exact(h i hi).choose_spec⟩
def L9 :MC:=match m6 with| .seq _ (.seq _ (.seq (.seq _ (.block _ (.loop _ b))) _))=>b|_=>.skip
def L9b :MC:=match m6 with| .seq _ (.seq _ (.seq _ (.seq (.seq _ (.block _ (.loop _ b))) _)))=>b|_=>.skip
def L9c :MC:=match m6 with| .seq _ (.seq _ (.seq _ (.seq _ (.seq (.seq _ (.block _ (.loop _ b))) _))))=>b|_=>.skip
def S9 (x:Re)(k i:Nat):St:=⟨[.set k (i64 i),.set 1 (.ptr 1 [])],[(1,.fix sRe (reAV x))]⟩
section
variable {d :Nat} {x:Re}
theorem qfm (hl:x.hs.length<=10)(i:Nat)(hi:i<x.hs.length)(hp:(hat x.hs i).n.length<=200/\(hat x.hs i).v.length<=200) :
  zb1 [.slot 1,.slot 3,.key 1] (evC gl (call gl tab d) L9 (S9 x 3 i))=some (S9 x 3 (i+1)):=by
 have hx:=z0k hi
 have hcl:=zek x.hs
 obtain⟨p1,p2⟩:=hp
 rw[S9,S9]
 generalize hat x.hs i=y at *
 simp(disch:=apply zq;omega) only[go_sem,simprocAttr,↓Nat.reduceEqDiff,xx,L9,m6,hx,hcl]
theorem qg3 (hl:x.hs.length<=10)(i:Nat)(hi:i<x.hs.length)(hb:(hat x.hs i).n.length<=ML/\(hat x.hs i).v.length<=ML)(hp:¬((hat x.hs i).n.length<=200/\(hat x.hs i).v.length<=200)) :
  out1 2 (evC gl (call gl tab d) L9 (S9 x 3 i))=some (.ret,.bool false):=by
 have hx:=z0k hi
 have hcl:=zek x.hs
 obtain⟨p1,p2⟩:=hb
 unfold ML at *
 rw[S9]
 generalize hat x.hs i=y at *
 by_cases k:y.n.length<=200
 . have k2:¬y.v.length<=200:=fun h=>hp ⟨k,h⟩
   simp(disch:=apply zq;omega) only[go_sem,simprocAttr,↓Nat.reduceEqDiff,xx,L9,m6,hx,hcl]
 . simp(disch:=apply zq;omega) only[go_sem,simprocAttr,↓Nat.reduceEqDiff,xx,L9,m6,hx,hcl]
theorem qbu (hl:x.tk.cs.length<=8)(i:Nat)(hi:i<x.tk.cs.length){b:Bool}(c:call gl tab d 19 [cdAV (cat x.tk.cs i)] []=some (.bool b,[],[]))(hb:b=true) :
  zb1 [.slot 1,.slot 4,.key 1] (evC gl (call gl tab d) L9b (S9 x 4 i))=some (S9 x 4 (i+1)):=by
 have hx:=z2e hi
 have hcl:=zdp x.tk.cs
 subst hb
 rw[S9,S9]
 generalize cat x.tk.cs i=y at *
 simp(disch:=apply zq;omega) only[go_sem,simprocAttr,↓Nat.reduceEqDiff,xx,L9b,m6,hx,hcl,c]
theorem qdy (hl:x.tk.cs.length<=8)(i:Nat)(hi:i<x.tk.cs.length){b:Bool}(c:call gl tab d 19 [cdAV (cat x.tk.cs i)] []=some (.bool b,[],[]))(hb:¬b=true) :
  out1 2 (evC gl (call gl tab d) L9b (S9 x 4 i))=some (.ret,.bool false):=by
 have hx:=z2e hi
 have hcl:=zdp x.tk.cs
 rw[Bool.not_eq_true]at hb
 subst hb
 rw[S9]
 generalize cat x.tk.cs i=y at *
 simp(disch:=apply zq;omega) only[go_sem,simprocAttr,↓Nat.reduceEqDiff,xx,L9b,m6,hx,hcl,c]
theorem qbt (hl:x.rl.vy.length<=8)(i:Nat)(hi:i<x.rl.vy.length){b:Bool}(c:call gl tab d 18 [.lst false .sc (strsAV (vat x.rl.vy i).v)] []=some (.bool b,[],[]))(hb:b=true/\(vat x.rl.vy i).h.length<=200/\(vat x.rl.vy i).d.length<=200) :
  zb1 [.slot 1,.slot 6,.key 1] (evC gl (call gl tab d) L9c (S9 x 6 i))=some (S9 x 6 (i+1)):=by
 have hx:=zx4 hi
 have hcl:=zdg x.rl.vy
 obtain⟨hb,p1,p2⟩:=hb
 subst hb
 rw[S9,S9]
 generalize vat x.rl.vy i=y at *
 simp(disch:=apply zq;omega) only[go_sem,simprocAttr,↓Nat.reduceEqDiff,xx,L9c,m6,hx,hcl,c]
theorem qdx (hl:x.rl.vy.length<=8)(i:Nat)(hi:i<x.rl.vy.length)(hr:VyR (vat x.rl.vy i)){b:Bool}(c:call gl tab d 18 [.lst false .sc (strsAV (vat x.rl.vy i).v)] []=some (.bool b,[],[]))(hb:¬(b=true/\(vat x.rl.vy i).h.length<=200/\(vat x.rl.vy i).d.length<=200)) :
  out1 2 (evC gl (call gl tab d) L9c (S9 x 6 i))=some (.ret,.bool false):=by
 have hx:=zx4 hi
 have hcl:=zdg x.rl.vy
 have q1:=hr.h
 have q2:=hr.d
 unfold ML at *
 rw[S9]
 clear hr
 generalize vat x.rl.vy i=y at *
 cases b
 . simp(disch:=apply zq;omega) only[go_sem,simprocAttr,↓Nat.reduceEqDiff,xx,L9c,m6,hx,hcl,c]
 . by_cases k:y.h.length<=200
   . have k2:¬y.d.length<=200:=fun h=>hb ⟨rfl,k,h⟩
     clear hb
     simp(disch:=apply zq;omega) only[go_sem,simprocAttr,↓Nat.reduceEqDiff,xx,L9c,m6,hx,hcl,c]
   . clear hb
     simp(disch:=apply zq;omega) only[go_sem,simprocAttr,↓Nat.reduceEqDiff,xx,L9c,m6,hx,hcl,c]
end
end Go.Proofs.S94.L
