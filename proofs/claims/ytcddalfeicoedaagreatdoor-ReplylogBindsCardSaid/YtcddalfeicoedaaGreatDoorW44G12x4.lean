/-
  Chapter 44: short replies. No condition.
-/
import Derived.Test.YtcddalfeicoedaaGreatDoorW44G11x4
set_option linter.all false
open List renaming mem_cons->wA,not_mem_nil->wB,mem_of_mem_take->wC,getElem_of_mem->wD,length_append->wE,mem_flatten->wF,getElem_mem->wG,cons_append->wH,nil_append->wI,mem_map->wJ,mem_append->wK
namespace Go.Proofs.S44.L
open Go Go.Ev Go.Proofs Go.Proofs.S44
open Go.Proofs.S44.H (strsAV zaa zaj Sml GlK GlR zal zbk nsI zak zint zat encB zaw zae)
variable {gl :Gl} {n:Nat}
structure VyR (x:Vy):Prop where
 h:x.h.length<=ML
 v:x.v.length<=ML
 w:∀y∈x.v,y.length<=ML
 d:x.d.length<=ML
structure VyS (x:Vy):Prop where
 h:x.h.length<=200
 v:Fw x.v 20
 d:x.d.length<=200
structure ReR (x:Re):Prop where
 i:(R64 x.site/\R64 x.seq/\R64 x.mo/\R64 x.fr/\R64 x.to/\R64 x.he/\R64 x.ca/\R64 x.us)/\R64 x.sx/\R64 x.lo/\R64 x.hi
 a:x.ad.length<=ML/\x.cl.length<=ML/\x.co.length<=ML
 h:x.hs.length<=ML
 hh:∀y∈x.hs,y.n.length<=ML/\y.v.length<=ML
 t:(R64 x.tk.cu/\R64 x.tk.se)/\x.tk.id.length<=ML/\x.tk.cs.length<=ML/\x.tk.sgn.length=16
 tc:∀y∈x.tk.cs,CdR y
 p:x.pol.length=16
 r:(R64 x.rl.fr/\R64 x.rl.sl/\R64 x.rl.dn/\R64 x.rl.ng/\R64 x.rl.co)/\(x.rl.nm.length<=ML/\x.rl.pat.length<=ML/\x.rl.pr.length<=ML)/\x.rl.tg.length<=ML/\x.rl.vy.length<=ML
 rt:∀y∈x.rl.tg,y.length<=ML
 rv:∀y∈x.rl.vy,VyR y
 ra:CdR x.rl.al
 s:SpOk x.sp
 sb:SpB x.sp
 d:x.dat.length=16
 l:LeOk x.le
structure ReS (x:Re):Prop where
 h:x.hs.length<=10
 c:x.tk.cs.length<=8
 v:x.rl.vy.length<=8
 t:Fw x.rl.tg 20
 a:CdS x.rl.al
 hh:∀y∈x.hs,y.n.length<=200/\y.v.length<=200
 cc:∀y∈x.tk.cs,CdS y
 vv:∀y∈x.rl.vy,VyS y
 w:Fw [x.ad,x.cl,x.co,x.tk.id,x.rl.nm,x.rl.pat,x.rl.pr] 20
 s:SpS x.sp
theorem R64.fl (b:Bool):R64 (fl b):=by
 cases b
 . exact⟨by decide,by decide⟩
 . exact⟨by decide,by decide⟩
theorem R64.nat {k:Nat}(h:k<=1000):R64 (k:Int):=by unfold R64;omega
theorem ReS.ok {x:Re}(r:ReR x)(h:ReS x):ReOk x where
 i:=by
  obtain⟨a1,a2,a3,a4,a5,a6,a7,a8⟩:=r.i.1
  have b1:=h.h
  have b2:=h.c
  have b3:=h.t.2
  have b4:=h.v
  refine⟨by simp,fun y hy=> ?_⟩
  simp only[nmS,wA,wB,or_false]at hy
  rcases hy with rfl|rfl|rfl|rfl|rfl|rfl|rfl|rfl|rfl|rfl|rfl|rfl
  . exact a1
  . exact a2
  . exact a3
  . exact a4
  . exact a5
  . exact a6
  . exact a7
  . exact a8
  . exact R64.nat (by omega)
  . exact R64.nat (by omega)
  . exact R64.nat (by omega)
  . exact R64.nat (by omega)
 a:=zbo r.i.2.1 (zbo r.i.2.2.1 (zbo r.i.2.2.2 zgu (by simp)) (by simp)) (by simp)
 h:=h.h
 t:=⟨zbo r.t.1.1 (zbo r.t.1.2 zgu (by simp)) (by simp),h.c,fun y hy=>(h.cc y hy).ok (r.tc y hy),r.t.2.2.2⟩
 p:=r.p
 r:=by
  obtain⟨a1,a2,a3,a4,a5⟩:=r.r.1
  exact⟨zbo a1 (zbo a2 (zbo a3 (zbo a4 (zbo (R64.fl _) (zbo a5 zgu (by simp)) (by simp)) (by simp)) (by simp)) (by simp)) (by simp),h.t.2,h.v,fun y hy=>(h.vv y hy).v.sml (by omega),h.a.ok r.ra⟩
 s:=r.s
 d:=r.d
 l:=r.l
theorem z9l {N:Nat}{P:Nat->Bool->Prop}(h:∀i,i<N->∃b,P i b):∃B:Nat->Bool,∀i,i<N->P i (B i):=by
 classical
 exact⟨fun i=>if hi:i<N then(h i hi).choose else false,fun i hi=>by simp only[dif_pos hi];exact(h i hi).choose_spec⟩
def L9 :MC:=match m9 with| .seq _ (.seq _ (.seq (.seq _ (.block _ (.loop _ b))) _))=>b|_=>.skip
def L9b :MC:=match m9 with| .seq _ (.seq _ (.seq _ (.seq (.seq _ (.block _ (.loop _ b))) _)))=>b|_=>.skip
def L9c :MC:=match m9 with| .seq _ (.seq _ (.seq _ (.seq _ (.seq (.seq _ (.block _ (.loop _ b))) _))))=>b|_=>.skip
def S9 (x:Re)(k i:Nat):St:=⟨[.set k (i64 i),.set 1 (.ptr 1 [])],[(1,.fix sRe (reAV x))]⟩
section
variable {d :Nat} {x:Re}
theorem qgt (hl:x.hs.length<=10)(i:Nat)(hi:i<x.hs.length)(hp:(hat x.hs i).n.length<=200/\(hat x.hs i).v.length<=200) :
  zbm [.slot 1,.slot 3,.key 1] (evC gl (call gl tab d) L9 (S9 x 3 i))=some (S9 x 3 (i+1)):=by
 have hx:=zut hi
 have hcl:=zc8 x.hs
 obtain⟨p1,p2⟩:=hp
 rw[S9,S9]
 generalize hat x.hs i=y at *
 simp(disch:=apply zq;omega) only[go_sem,simprocAttr,↓Nat.reduceEqDiff,xx,L9,m9,hx,hcl]
theorem qj1 (hl:x.hs.length<=10)(i:Nat)(hi:i<x.hs.length)(hb:(hat x.hs i).n.length<=ML/\(hat x.hs i).v.length<=ML)(hp:¬((hat x.hs i).n.length<=200/\(hat x.hs i).v.length<=200)) :
  out1 2 (evC gl (call gl tab d) L9 (S9 x 3 i))=some (.ret,.bool false):=by
 have hx:=zut hi
 have hcl:=zc8 x.hs
 obtain⟨p1,p2⟩:=hb
 unfold ML at *
 rw[S9]
 generalize hat x.hs i=y at *
 by_cases k:y.n.length<=200
 . have k2:¬y.v.length<=200:=fun h=>hp ⟨k,h⟩
   simp(disch:=apply zq;omega) only[go_sem,simprocAttr,↓Nat.reduceEqDiff,xx,L9,m9,hx,hcl]
 . simp(disch:=apply zq;omega) only[go_sem,simprocAttr,↓Nat.reduceEqDiff,xx,L9,m9,hx,hcl]
theorem qc0 (hl:x.tk.cs.length<=8)(i:Nat)(hi:i<x.tk.cs.length){b:Bool}(c:call gl tab d 45 [cdAV (cat x.tk.cs i)] []=some (.bool b,[],[]))(hb:b=true) :
  zbm [.slot 1,.slot 4,.key 1] (evC gl (call gl tab d) L9b (S9 x 4 i))=some (S9 x 4 (i+1)):=by
 have hx:=zvm hi
 have hcl:=zct x.tk.cs
 subst hb
 rw[S9,S9]
 generalize cat x.tk.cs i=y at *
 simp(disch:=apply zq;omega) only[go_sem,simprocAttr,↓Nat.reduceEqDiff,xx,L9b,m9,hx,hcl,c]
theorem qe8 (hl:x.tk.cs.length<=8)(i:Nat)(hi:i<x.tk.cs.length){b:Bool}(c:call gl tab d 45 [cdAV (cat x.tk.cs i)] []=some (.bool b,[],[]))(hb:¬b=true) :
  out1 2 (evC gl (call gl tab d) L9b (S9 x 4 i))=some (.ret,.bool false):=by
 have hx:=zvm hi
 have hcl:=zct x.tk.cs
 rw[Bool.not_eq_true]at hb
 subst hb
 rw[S9]
 generalize cat x.tk.cs i=y at *
 simp(disch:=apply zq;omega) only[go_sem,simprocAttr,↓Nat.reduceEqDiff,xx,L9b,m9,hx,hcl,c]
theorem qcz (hl:x.rl.vy.length<=8)(i:Nat)(hi:i<x.rl.vy.length){b:Bool}(c:call gl tab d 44 [.lst false .sc (strsAV (vat x.rl.vy i).v)] []=some (.bool b,[],[]))(hb:b=true/\(vat x.rl.vy i).h.length<=200/\(vat x.rl.vy i).d.length<=200) :
  zbm [.slot 1,.slot 6,.key 1] (evC gl (call gl tab d) L9c (S9 x 6 i))=some (S9 x 6 (i+1)):=by
 have hx:=ztp hi
 have hcl:=zcr x.rl.vy
 obtain⟨hb,p1,p2⟩:=hb
 subst hb
 rw[S9,S9]
 generalize vat x.rl.vy i=y at *
 simp(disch:=apply zq;omega) only[go_sem,simprocAttr,↓Nat.reduceEqDiff,xx,L9c,m9,hx,hcl,c]
theorem qe7 (hl:x.rl.vy.length<=8)(i:Nat)(hi:i<x.rl.vy.length)(hr:VyR (vat x.rl.vy i)){b:Bool}(c:call gl tab d 44 [.lst false .sc (strsAV (vat x.rl.vy i).v)] []=some (.bool b,[],[]))(hb:¬(b=true/\(vat x.rl.vy i).h.length<=200/\(vat x.rl.vy i).d.length<=200)) :
  out1 2 (evC gl (call gl tab d) L9c (S9 x 6 i))=some (.ret,.bool false):=by
 have hx:=ztp hi
 have hcl:=zcr x.rl.vy
 have q1:=hr.h
 have q2:=hr.d
 unfold ML at *
 rw[S9]
 clear hr
 generalize vat x.rl.vy i=y at *
 cases b
 . simp(disch:=apply zq;omega) only[go_sem,simprocAttr,↓Nat.reduceEqDiff,xx,L9c,m9,hx,hcl,c]
 . by_cases k:y.h.length<=200
   . have k2:¬y.d.length<=200:=fun h=>hb ⟨rfl,k,h⟩
     clear hb
     simp(disch:=apply zq;omega) only[go_sem,simprocAttr,↓Nat.reduceEqDiff,xx,L9c,m9,hx,hcl,c]
   . clear hb
     simp(disch:=apply zq;omega) only[go_sem,simprocAttr,↓Nat.reduceEqDiff,xx,L9c,m9,hx,hcl,c]
end
end Go.Proofs.S44.L
namespace Go.Proofs.S44.L
open Go Go.Ev Go.Proofs Go.Proofs.S44
open Go.Proofs.S44.H (strsAV zaa zaj Sml GlK GlR zal zbk nsI zak zint zat encB zaw zae)
variable {gl :Gl} {n:Nat}
theorem qar {l:List Hr}{i:Nat}(h:i<l.length):hat l i∈l:=by
 rw[show hat l i=l[i] by simp[hat,h]];exact wG h
theorem z90 {l:List Hr}{x:Hr}(h:x∈l):∃i,i<l.length/\hat l i=x:=by
 obtain⟨i,hi,rfl⟩:=wD h
 exact⟨i,hi,by simp[hat,hi]⟩
theorem z91 {l:List Cd}{x:Cd}(h:x∈l):∃i,i<l.length/\cat l i=x:=by
 obtain⟨i,hi,rfl⟩:=wD h
 exact⟨i,hi,by simp[cat,hi]⟩
theorem z9y {l:List Vy}{x:Vy}(h:x∈l):∃i,i<l.length/\vat l i=x:=by
 obtain⟨i,hi,rfl⟩:=wD h
 exact⟨i,hi,by simp[vat,hi]⟩
theorem z7k (h:5<=n){x:Re}(hx:ReR x):∃b:Bool,(b=true->ReS x)/\call gl tab n 9 [reAV x] []=some (.bool b,[],[]):=by
 obtain⟨d,rfl⟩:=Nat.exists_eq_add_of_le' h
 have u1:=b16 hx.d
 have u2:=b16 hx.p
 have u3:=b16 hx.t.2.2.2
 have u4:=b16 hx.s.r
 have u5:=b16 hx.s.s
 have u6:=b16 hx.l.s
 have w1:=H.bytes_all x.dat
 have w2:=H.bytes_all x.pol
 have w3:=H.bytes_all x.tk.sgn
 have w4:=H.bytes_all x.sp.body
 have w5:=H.bytes_all x.sp.sgn
 have w6:=H.bytes_all x.le.sgn
 have g1:=zc8 x.hs
 have g2:=zct x.tk.cs
 have g3:=zaa x.rl.tg
 have g4:=zcr x.rl.vy
 obtain⟨bt,ht,ct⟩:=@zk5 gl (d+4) (by omega) false x.rl.tg hx.r.2.2.1 hx.rt
 obtain⟨ba,hba,ca⟩:=@zu3 gl (d+4) (by omega) _ hx.ra
 obtain⟨bw,hw,cw⟩:=@zk5 gl (d+4) (by omega) false [x.ad,x.cl,x.co,x.tk.id,x.rl.nm,x.rl.pat,x.rl.pr] (show 7<=ML by decide) (fun y hy=>by
  simp at hy
  rcases hy with rfl|rfl|rfl|rfl|rfl|rfl|rfl
  . exact hx.a.1
  . exact hx.a.2.1
  . exact hx.a.2.2
  . exact hx.t.2.1
  . exact hx.r.2.1.1
  . exact hx.r.2.1.2.1
  . exact hx.r.2.1.2.2)
 have ew:strsAV [x.ad,x.cl,x.co,x.tk.id,x.rl.nm,x.rl.pat,x.rl.pr]=[.str x.ad,.str x.cl,.str x.co,.str x.tk.id,.str x.rl.nm,.str x.rl.pat,.str x.rl.pr]:=rfl
 rw[ew]at cw
 obtain⟨bs,hs,cs⟩:=@z8v gl (d+4) (by omega) _ hx.s hx.sb
 obtain⟨B,hB⟩:=z9l (N:=x.tk.cs.length) fun i hi=>@zu3 gl (d+4) (by omega) _ (hx.tc _ (ztg hi))
 obtain⟨V,hV⟩:=z9l (N:=x.rl.vy.length) fun i hi=>@zk5 gl (d+4) (by omega) false (vat x.rl.vy i).v (hx.rv _ (zkv hi)).v (hx.rv _ (zkv hi)).w
 have h1:=hx.h
 have h2:=hx.t.2.2.1
 have h3:=hx.r.2.2.2
 unfold ML at h1 h2 h3
 rw[zaf (fd:=fd9) rfl]
 by_cases k1:x.hs.length<=10
 case neg=>exact⟨false,(fun h=>by cases h),by simp(disch:=apply zq;omega) only[go_sem,simprocAttr,↓Nat.reduceEqDiff,xx,fd9,m9,u1,u2,u3,u4,u5,u6,w1,w2,w3,w4,w5,w6,g1,g2,g3,g4]⟩
 by_cases k2:x.tk.cs.length<=8
 case neg=>exact⟨false,(fun h=>by cases h),by simp(disch:=apply zq;omega) only[go_sem,simprocAttr,↓Nat.reduceEqDiff,xx,fd9,m9,u1,u2,u3,u4,u5,u6,w1,w2,w3,w4,w5,w6,g1,g2,g3,g4]⟩
 by_cases k3:x.rl.vy.length<=8
 case neg=>exact⟨false,(fun h=>by cases h),by simp(disch:=apply zq;omega) only[go_sem,simprocAttr,↓Nat.reduceEqDiff,xx,fd9,m9,u1,u2,u3,u4,u5,u6,w1,w2,w3,w4,w5,w6,g1,g2,g3,g4]⟩
 cases bt
 case false=>exact⟨false,(fun h=>by cases h),by simp(disch:=apply zq;omega) only[go_sem,simprocAttr,↓Nat.reduceEqDiff,xx,fd9,m9,u1,u2,u3,u4,u5,u6,w1,w2,w3,w4,w5,w6,g1,g2,g3,g4,ct]⟩
 cases ba
 case false=>exact⟨false,(fun h=>by cases h),by simp(disch:=apply zq;omega) only[go_sem,simprocAttr,↓Nat.reduceEqDiff,xx,fd9,m9,u1,u2,u3,u4,u5,u6,w1,w2,w3,w4,w5,w6,g1,g2,g3,g4,ct,ca]⟩
 have sa:=fun i hi hp=>@qgt gl (d+4) x k1 i hi hp
 have fa:=fun i hi hp=>@qj1 gl (d+4) x k1 i hi (hx.hh _ (qar hi)) hp
 have sb:=fun i hi hp=>@qc0 gl (d+4) x k2 i hi _ (hB i hi).2 hp
 have fb:=fun i hi hp=>@qe8 gl (d+4) x k2 i hi _ (hB i hi).2 hp
 have sc:=fun i hi hp=>@qcz gl (d+4) x k3 i hi _ (hV i hi).2 hp
 have fc:=fun i hi hp=>@qe7 gl (d+4) x k3 i hi (hx.rv _ (zkv hi)) _ (hV i hi).2 hp
 rcases zc9 (fun i=>(hat x.hs i).n.length<=200/\(hat x.hs i).v.length<=200) x.hs.length with ha|⟨q,hq,hb',he⟩
 case inr =>
  obtain⟨st,hst,hg⟩:=zeu (fa q hq he)
  have hs2:=fun i (hi:i<q)=>sa i (by omega) (hb' i hi)
  simp only[L9,m9]at hs2 hst
  refine⟨false,(fun h=>by cases h),?_⟩
  simp(disch:=apply zq;omega) only[go_sem,simprocAttr,↓Nat.reduceEqDiff,xx,fd9,m9,u1,u2,u3,u4,u5,u6,w1,w2,w3,w4,w5,w6,g1,g2,g3,g4,ct,ca]
  rw[zam (S9 x 3) q (by unfold LF;omega),hst]
  . simp(disch:=apply zq;omega) only[go_sem,simprocAttr,↓Nat.reduceEqDiff,xx,hg]
  . simp(disch:=apply zq;omega) only[go_sem,simprocAttr,↓Nat.reduceEqDiff,xx,S9]
  . exact hs2
  . rw[hst];rfl
 have sa2:=fun i hi=>sa i hi (ha i hi)
 simp only[L9,m9]at sa2
 rcases zc9 (fun i=>B i=true) x.tk.cs.length with hb|⟨q,hq,hb',he⟩
 case inr =>
  obtain⟨st,hst,hg⟩:=zeu (fb q hq he)
  have hs2:=fun i (hi:i<q)=>sb i (by omega) (hb' i hi)
  simp only[L9b,m9]at hs2 hst
  refine⟨false,(fun h=>by cases h),?_⟩
  simp(disch:=apply zq;omega) only[go_sem,simprocAttr,↓Nat.reduceEqDiff,xx,fd9,m9,u1,u2,u3,u4,u5,u6,w1,w2,w3,w4,w5,w6,g1,g2,g3,g4,ct,ca]
  rw[zam (S9 x 3) x.hs.length (by unfold LF;omega)]
  rotate_left
  . simp(disch:=apply zq;omega) only[go_sem,simprocAttr,↓Nat.reduceEqDiff,xx,S9]
  . exact sa2
  . simp(disch:=apply zq;omega) only[go_sem,simprocAttr,↓Nat.reduceEqDiff,xx,S9,g1]
  rw[S9]
  simp(disch:=apply zq;omega) only[go_sem,simprocAttr,↓Nat.reduceEqDiff,xx,g1]
  rw[zam (S9 x 4) q (by unfold LF;omega),hst]
  . simp(disch:=apply zq;omega) only[go_sem,simprocAttr,↓Nat.reduceEqDiff,xx,hg]
  . simp(disch:=apply zq;omega) only[go_sem,simprocAttr,↓Nat.reduceEqDiff,xx,S9]
  . exact hs2
  . rw[hst];rfl
 have sb2:=fun i hi=>sb i hi (hb i hi)
 simp only[L9b,m9]at sb2
 rcases zc9 (fun i=>V i=true/\(vat x.rl.vy i).h.length<=200/\(vat x.rl.vy i).d.length<=200) x.rl.vy.length with hc|⟨q,hq,hb',he⟩
 case inr =>
  obtain⟨st,hst,hg⟩:=zeu (fc q hq he)
  have hs2:=fun i (hi:i<q)=>sc i (by omega) (hb' i hi)
  simp only[L9c,m9]at hs2 hst
  refine⟨false,(fun h=>by cases h),?_⟩
  simp(disch:=apply zq;omega) only[go_sem,simprocAttr,↓Nat.reduceEqDiff,xx,fd9,m9,u1,u2,u3,u4,u5,u6,w1,w2,w3,w4,w5,w6,g1,g2,g3,g4,ct,ca]
  rw[zam (S9 x 3) x.hs.length (by unfold LF;omega)]
  rotate_left
  . simp(disch:=apply zq;omega) only[go_sem,simprocAttr,↓Nat.reduceEqDiff,xx,S9]
  . exact sa2
  . simp(disch:=apply zq;omega) only[go_sem,simprocAttr,↓Nat.reduceEqDiff,xx,S9,g1]
  rw[S9]
  simp(disch:=apply zq;omega) only[go_sem,simprocAttr,↓Nat.reduceEqDiff,xx,g1]
  rw[zam (S9 x 4) x.tk.cs.length (by unfold LF;omega)]
  rotate_left
  . simp(disch:=apply zq;omega) only[go_sem,simprocAttr,↓Nat.reduceEqDiff,xx,S9]
  . exact sb2
  . simp(disch:=apply zq;omega) only[go_sem,simprocAttr,↓Nat.reduceEqDiff,xx,S9,g2]
  rw[S9]
  simp(disch:=apply zq;omega) only[go_sem,simprocAttr,↓Nat.reduceEqDiff,xx,g2]
  rw[zam (S9 x 6) q (by unfold LF;omega),hst]
  . simp(disch:=apply zq;omega) only[go_sem,simprocAttr,↓Nat.reduceEqDiff,xx,hg]
  . simp(disch:=apply zq;omega) only[go_sem,simprocAttr,↓Nat.reduceEqDiff,xx,S9]
  . exact hs2
  . rw[hst];rfl
 have sc2:=fun i hi=>sc i hi (hc i hi)
 simp only[L9c,m9]at sc2
 refine⟨bw&&bs,fun hb2=> ?_,?_⟩
 . rw[Bool.and_eq_true]at hb2
   refine⟨k1,k2,k3,ht.1 rfl,hba rfl,fun y hy=> ?_,fun y hy=> ?_,fun y hy=> ?_,hw.1 hb2.1,hs hb2.2⟩
   . obtain⟨i,hi,rfl⟩:=z90 hy
     exact ha i hi
   . obtain⟨i,hi,rfl⟩:=z91 hy
     exact(hB i hi).1 (hb i hi)
   . obtain⟨i,hi,rfl⟩:=z9y hy
     exact⟨(hc i hi).2.1,(hV i hi).1.1 (hc i hi).1,(hc i hi).2.2⟩
 . simp(disch:=apply zq;omega) only[go_sem,simprocAttr,↓Nat.reduceEqDiff,xx,fd9,m9,u1,u2,u3,u4,u5,u6,w1,w2,w3,w4,w5,w6,g1,g2,g3,g4,ct,ca]
   rw[zam (S9 x 3) x.hs.length (by unfold LF;omega)]
   rotate_left
   . simp(disch:=apply zq;omega) only[go_sem,simprocAttr,↓Nat.reduceEqDiff,xx,S9]
   . exact sa2
   . simp(disch:=apply zq;omega) only[go_sem,simprocAttr,↓Nat.reduceEqDiff,xx,S9,g1]
   rw[S9]
   simp(disch:=apply zq;omega) only[go_sem,simprocAttr,↓Nat.reduceEqDiff,xx,g1]
   rw[zam (S9 x 4) x.tk.cs.length (by unfold LF;omega)]
   rotate_left
   . simp(disch:=apply zq;omega) only[go_sem,simprocAttr,↓Nat.reduceEqDiff,xx,S9]
   . exact sb2
   . simp(disch:=apply zq;omega) only[go_sem,simprocAttr,↓Nat.reduceEqDiff,xx,S9,g2]
   rw[S9]
   simp(disch:=apply zq;omega) only[go_sem,simprocAttr,↓Nat.reduceEqDiff,xx,g2]
   rw[zam (S9 x 6) x.rl.vy.length (by unfold LF;omega)]
   rotate_left
   . simp(disch:=apply zq;omega) only[go_sem,simprocAttr,↓Nat.reduceEqDiff,xx,S9]
   . exact sc2
   . simp(disch:=apply zq;omega) only[go_sem,simprocAttr,↓Nat.reduceEqDiff,xx,S9,g4]
   rw[S9]
   cases bw
   . simp(disch:=apply zq;omega) only[go_sem,simprocAttr,↓Nat.reduceEqDiff,xx,g4,cw,cs,u1,u2,u3,u4,u5,u6,w1,w2,w3,w4,w5,w6]
   . simp(disch:=apply zq;omega) only[go_sem,simprocAttr,↓Nat.reduceEqDiff,xx,g4,cw,cs,u1,u2,u3,u4,u5,u6,w1,w2,w3,w4,w5,w6]
end Go.Proofs.S44.L
namespace Go.Proofs.S44.L
open Go Go.Ev Go.Proofs Go.Proofs.S44
open Go.Proofs.S44.H (strsAV zaa zaj Sml GlK GlR zal zbk nsI zak zint zat encB zaw zae)
variable {gl :Gl} {n:Nat}
theorem fw_z {l:List (List UInt8)}(h:Fw l 20):(zbb l).length<=4300:=by
 have key:∀i,i<=l.length->(spre l i).length<=10+210*i:=by
  intro i
  induction i with
  | zero=>intro _;rw[zqb];have:=zat l.length;omega
  | succ i ih =>
    intro hi
    have h1:=ih (by omega)
    have h2:=zaw l[i]
    have h3:=h.1 l[i] (wG (by omega))
    rw[zqa (by omega),wE];omega
 have h1:=key _ (Nat.le_refl _)
 have h2:=h.2
 rw[zg5]at h1;omega
theorem zi_z {l:List Int}(h:l.length<=64):(zal l).length<=4300:=by
 have:=@H.zints_len l
 omega
theorem qfu {x:Cd}(h:CdS x):∀y∈cdP x,y.length<=4300:=by
 intro y hy
 simp only[cdP,wA,wB,or_false]at hy
 rcases hy with rfl|rfl|rfl|rfl|rfl
 . exact zi_z (by simp)
 . have:=h.p;omega
 . exact fw_z h.cl
 . exact fw_z h.co
 . exact zi_z h.si
theorem qbg {l:List Cd}{i:Nat}{y:List UInt8}(h:y∈csP l i):∃z∈l,y∈cdP z:=by
 simp only[csP,wF,wJ]at h
 obtain⟨_,⟨z,hz,rfl⟩,hy⟩:=h
 exact⟨z,wC hz,hy⟩
theorem z72 {l:List Vy}{i:Nat}{y:List UInt8}(h:y∈vsP l i):∃z∈l,y∈vyP z:=by
 simp only[vsP,wF,wJ]at h
 obtain⟨_,⟨z,hz,rfl⟩,hy⟩:=h
 exact⟨z,wC hz,hy⟩
theorem qan {l:List Hr}{i:Nat}{y:List UInt8}(h:y∈hsP l i):∃z∈l,y∈hrP z:=by
 simp only[hsP,wF,wJ]at h
 obtain⟨_,⟨z,hz,rfl⟩,hy⟩:=h
 exact⟨z,wC hz,hy⟩
theorem qdo {x:Re}(r:ReR x)(h:ReS x):∀y∈reP x,y.length<=4300:=by
 have w:=h.w.1
 have l16:∀y:List UInt8,y.length=16->y.length<=4300:=fun y h=>by omega
 have l200:∀y:List UInt8,y.length<=200->y.length<=4300:=fun y h=>by omega
 have m1:∀y∈p1 x,y.length<=4300:=by
  intro y hy
  simp only[p1,wH,wI,wA,wB,or_false]at hy
  rcases hy with rfl|rfl|rfl|rfl|rfl|rfl|rfl
  . exact zi_z (by simp)
  . exact l16 _ r.d
  . exact l16 _ r.p
  . exact l200 _ (w _ (by simp))
  . exact l200 _ (w _ (by simp))
  . exact l200 _ (w _ (by simp))
  . exact zi_z (by simp)
 have m2:∀y∈hsP x.hs x.hs.length,y.length<=4300:=fun y hy=>by
  obtain⟨z,hz,hy⟩:=qan hy
  have:=h.hh z hz
  simp only[hrP,wA,wB,or_false]at hy
  rcases hy with rfl|rfl
  . exact l200 _ this.1
  . exact l200 _ this.2
 have m3:∀y∈tkP x.tk,y.length<=4300:=fun y hy=>by
  simp only[tkP,wH,wI,wA]at hy
  rcases hy with rfl|rfl|rfl|hy
  . exact zi_z (by simp)
  . exact l200 _ (w _ (by simp))
  . exact l16 _ r.t.2.2.2
  . obtain⟨z,hz,hy⟩:=qbg hy
    exact qfu (h.cc z hz) y hy
 have m4:∀y∈rlP x.rl,y.length<=4300:=fun y hy=>by
  simp only[rlP,wH,wI,List.append_assoc,wA,wK]at hy
  rcases hy with rfl|rfl|rfl|rfl|hy|hy|hy
  . exact l200 _ (w _ (by simp))
  . exact l200 _ (w _ (by simp))
  . exact l200 _ (w _ (by simp))
  . exact zi_z (by simp)
  . exact l200 _ (h.t.1 y hy)
  . obtain⟨z,hz,hy⟩:=z72 hy
    have:=h.vv z hz
    simp only[vyP,wA,wB,or_false]at hy
    rcases hy with rfl|rfl|rfl
    . exact l200 _ this.h
    . exact l200 _ this.d
    . exact fw_z this.v
  . exact qfu h.a y hy
 have m5:∀y∈spP x.sp,y.length<=4300:=fun y hy=>by
  simp only[spP,wA,wB,or_false]at hy
  rcases hy with rfl|rfl|rfl|rfl|rfl
  . exact l200 _ h.s.a
  . exact l200 _ h.s.v
  . exact zi_z (by simp)
  . exact l16 _ r.s.r
  . exact l200 _ h.s.t
 have m6:∀y∈leP x.le,y.length<=4300:=fun y hy=>by
  simp only[leP,wA,wB,or_false]at hy
  subst hy;exact zi_z (by simp)
 intro y hy
 simp only[reP,wK,List.mem_singleton]at hy
 rcases hy with ((((((hy|hy)|hy)|hy)|hy)|rfl)|hy)|rfl
 . exact m1 y hy
 . exact m2 y hy
 . exact m3 y hy
 . exact m4 y hy
 . exact m5 y hy
 . exact l16 _ r.s.s
 . exact m6 y hy
 . exact l16 _ r.l.s
theorem zou {x:Re}(h:ReS x):(reP x).length<=131:=by
 have a1:=h.h
 have a2:=h.c
 have a3:=h.v
 have a4:=h.t.2
 unfold reP
 simp only[wE,zzk,zh1 (Nat.le_refl _),zrz,zsc,zk1,zlx,List.length_singleton]
 omega
theorem zsg {x:Re}(r:ReR x)(h:ReS x):Sml (reP x):=⟨by have:=zou h;omega,fun y hy=>by have:=qdo r h y hy;omega⟩
theorem zsf {x:Re}(r:ReR x)(h:ReS x):(zbb (reP x)).length<=1048576:=by
 have l:=zou h
 have z:=qdo r h
 have key:∀i,i<=(reP x).length->(spre (reP x) i).length<=10+4310*i:=by
  intro i
  induction i with
  | zero=>intro _;rw[zqb];have:=zat (reP x).length;omega
  | succ i ih =>
    intro hi
    have h1:=ih (by omega)
    have h2:=zaw (reP x)[i]
    have h3:=z (reP x)[i] (wG (by omega))
    rw[zqa (by omega),wE];omega
 have h1:=key _ (Nat.le_refl _)
 rw[zg5]at h1;omega
end Go.Proofs.S44.L
