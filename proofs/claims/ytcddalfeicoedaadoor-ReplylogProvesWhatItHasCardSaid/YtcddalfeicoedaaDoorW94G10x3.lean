/-
  Chapter 44: whether a reply is short. No condition.
-/
import Derived.Test.YtcddalfeicoedaaDoorW94G9x3
set_option linter.all false
open List renaming length_append->wA,mem_cons->wB,not_mem_nil->wC,mem_of_mem_take->wD,getElem_of_mem->wE,mem_flatten->wF,getElem_mem->wG,cons_append->wH,nil_append->wI,mem_map->wJ,length_singleton->wK,mem_append->wL
open Nat renaming le_refl->wM,exists_eq_add_of_le'->wN
namespace Go.Proofs.S94.L
open Go Go.Ev Go.Proofs Go.Proofs.S94
open Go.Proofs.S94.H (strsAV zaa zaj Sml GlK GlR zam zbh nsI zak zint zaw encB zaz zaf)
variable {gl :Gl} {n:Nat}
theorem z9k {l:List Hr}{i:Nat}(h:i<l.length):hat l i∈l:=by
 rw[show hat l i=l[i] by simp[hat,h]];exact wG h
theorem z8v {l:List Hr}{x:Hr}(h:x∈l):∃i,i<l.length/\hat l i=x:=by
 obtain⟨i,hi,rfl⟩:=wE h
 exact⟨i,hi,by simp[hat,hi]⟩
theorem z8w {l:List Cd}{x:Cd}(h:x∈l):∃i,i<l.length/\cat l i=x:=by
 obtain⟨i,hi,rfl⟩:=wE h
 exact⟨i,hi,by simp[cat,hi]⟩
theorem z8t {l:List Vy}{x:Vy}(h:x∈l):∃i,i<l.length/\vat l i=x:=by
 obtain⟨i,hi,rfl⟩:=wE h
 exact⟨i,hi,by simp[vat,hi]⟩
theorem qdw (h:5<=n){x:Re}(hx:ReR x):∃b:Bool,(b=true->ReS x)/\call gl tab n 6 [reAV x] []=some (.bool b,[],[]):=by
 obtain⟨d,rfl⟩:=wN h
 have u1:=b16 hx.d
 have u2:=b16 hx.p
 have u3:=b16 hx.t.2.2.2
 have u4:=b16 hx.s.r
 have u5:=b16 hx.s.s
 have u6:=b16 hx.l.s
 have w1:=H.bytes_all x.dat
 have w2:=H.bytes_all x.pol
 have w3:=H.bytes_all x.tk.sgn
 have w4:=H.bytes_all x.sp.body
 have w5:=H.bytes_all x.sp.sgn
 have w6:=H.bytes_all x.le.sgn
 have g1:=zek x.hs
 have g2:=zdp x.tk.cs
 have g3:=zaa x.rl.tg
 have g4:=zdg x.rl.vy
 obtain⟨bt,ht,ct⟩:=@zkz gl (d+4) (by omega) false x.rl.tg hx.r.2.2.1 hx.rt
 obtain⟨ba,hba,ca⟩:=@zu7 gl (d+4) (by omega) _ hx.ra
 obtain⟨bw,hw,cw⟩:=@zkz gl (d+4) (by omega) false [x.ad,x.cl,x.co,x.tk.id,x.rl.nm,x.rl.pat,x.rl.pr] (show 7<=ML by decide) (fun y hy=>by
  simp at hy
  rcases hy with rfl|rfl|rfl|rfl|rfl|rfl|rfl
  . exact hx.a.1
  . exact hx.a.2.1
  . exact hx.a.2.2
  . exact hx.t.2.1
  . exact hx.r.2.1.1
  . exact hx.r.2.1.2.1
  . exact hx.r.2.1.2.2)
 have ew:strsAV [x.ad,x.cl,x.co,x.tk.id,x.rl.nm,x.rl.pat,x.rl.pr]=[.str x.ad,.str x.cl,.str x.co,.str x.tk.id,.str x.rl.nm,.str x.rl.pat,.str x.rl.pr]:=rfl
 rw[ew]at cw
 obtain⟨bs,hs,cs⟩:=@z7z gl (d+4) (by omega) _ hx.s hx.sb
 obtain⟨B,hB⟩:=z8h (N:=x.tk.cs.length) fun i hi=>@zu7 gl (d+4) (by omega) _ (hx.tc _ (z2f hi))
 obtain⟨V,hV⟩:=z8h (N:=x.rl.vy.length) fun i hi=>@zkz gl (d+4) (by omega) false (vat x.rl.vy i).v (hx.rv _ (zn1 hi)).v (hx.rv _ (zn1 hi)).w
 have h1:=hx.h
 have h2:=hx.t.2.2.1
 have h3:=hx.r.2.2.2
 unfold ML at h1 h2 h3
 rw[zae (fd:=fd6) rfl]
 by_cases k1:x.hs.length<=10
 case neg=>exact⟨false,(fun h=>by cases h),by simp(disch:=apply zq;omega) only[go_sem,simprocAttr,↓Nat.reduceEqDiff,xx,fd6,m6,u1,u2,u3,u4,u5,u6,w1,w2,w3,w4,w5,w6,g1,g2,g3,g4]⟩
 by_cases k2:x.tk.cs.length<=8
 case neg=>exact⟨false,(fun h=>by cases h),by simp(disch:=apply zq;omega) only[go_sem,simprocAttr,↓Nat.reduceEqDiff,xx,fd6,m6,u1,u2,u3,u4,u5,u6,w1,w2,w3,w4,w5,w6,g1,g2,g3,g4]⟩
 by_cases k3:x.rl.vy.length<=8
 case neg=>exact⟨false,(fun h=>by cases h),by simp(disch:=apply zq;omega) only[go_sem,simprocAttr,↓Nat.reduceEqDiff,xx,fd6,m6,u1,u2,u3,u4,u5,u6,w1,w2,w3,w4,w5,w6,g1,g2,g3,g4]⟩
 cases bt
 case false=>exact⟨false,(fun h=>by cases h),by simp(disch:=apply zq;omega) only[go_sem,simprocAttr,↓Nat.reduceEqDiff,xx,fd6,m6,u1,u2,u3,u4,u5,u6,w1,w2,w3,w4,w5,w6,g1,g2,g3,g4,ct]⟩
 cases ba
 case false=>exact⟨false,(fun h=>by cases h),by simp(disch:=apply zq;omega) only[go_sem,simprocAttr,↓Nat.reduceEqDiff,xx,fd6,m6,u1,u2,u3,u4,u5,u6,w1,w2,w3,w4,w5,w6,g1,g2,g3,g4,ct,ca]⟩
 have sa:=fun i hi hp=>@qfm gl (d+4) x k1 i hi hp
 have fa:=fun i hi hp=>@qg3 gl (d+4) x k1 i hi (hx.hh _ (z9k hi)) hp
 have sb:=fun i hi hp=>@qbu gl (d+4) x k2 i hi _ (hB i hi).2 hp
 have fb:=fun i hi hp=>@qdy gl (d+4) x k2 i hi _ (hB i hi).2 hp
 have sc:=fun i hi hp=>@qbt gl (d+4) x k3 i hi _ (hV i hi).2 hp
 have fc:=fun i hi hp=>@qdx gl (d+4) x k3 i hi (hx.rv _ (zn1 hi)) _ (hV i hi).2 hp
 rcases zce (fun i=>(hat x.hs i).n.length<=200/\(hat x.hs i).v.length<=200) x.hs.length with ha|⟨q,hq,hb',he⟩
 case inr =>
  obtain⟨st,hst,hg⟩:=zds (fa q hq he)
  have hs2:=fun i (hi:i<q)=>sa i (by omega) (hb' i hi)
  simp only[L9,m6]at hs2 hst
  refine⟨false,(fun h=>by cases h),?_⟩
  simp(disch:=apply zq;omega) only[go_sem,simprocAttr,↓Nat.reduceEqDiff,xx,fd6,m6,u1,u2,u3,u4,u5,u6,w1,w2,w3,w4,w5,w6,g1,g2,g3,g4,ct,ca]
  rw[zao (S9 x 3) q (by unfold LF;omega),hst]
  . simp(disch:=apply zq;omega) only[go_sem,simprocAttr,↓Nat.reduceEqDiff,xx,hg]
  . simp(disch:=apply zq;omega) only[go_sem,simprocAttr,↓Nat.reduceEqDiff,xx,S9]
  . exact hs2
  . rw[hst];rfl
 have sa2:=fun i hi=>sa i hi (ha i hi)
 simp only[L9,m6]at sa2
 rcases zce (fun i=>B i=true) x.tk.cs.length with hb|⟨q,hq,hb',he⟩
 case inr =>
  obtain⟨st,hst,hg⟩:=zds (fb q hq he)
  have hs2:=fun i (hi:i<q)=>sb i (by omega) (hb' i hi)
  simp only[L9b,m6]at hs2 hst
  refine⟨false,(fun h=>by cases h),?_⟩
  simp(disch:=apply zq;omega) only[go_sem,simprocAttr,↓Nat.reduceEqDiff,xx,fd6,m6,u1,u2,u3,u4,u5,u6,w1,w2,w3,w4,w5,w6,g1,g2,g3,g4,ct,ca]
  rw[zao (S9 x 3) x.hs.length (by unfold LF;omega)]
  rotate_left
  . simp(disch:=apply zq;omega) only[go_sem,simprocAttr,↓Nat.reduceEqDiff,xx,S9]
  . exact sa2
  . simp(disch:=apply zq;omega) only[go_sem,simprocAttr,↓Nat.reduceEqDiff,xx,S9,g1]
  rw[S9]
  simp(disch:=apply zq;omega) only[go_sem,simprocAttr,↓Nat.reduceEqDiff,xx,g1]
  rw[zao (S9 x 4) q (by unfold LF;omega),hst]
  . simp(disch:=apply zq;omega) only[go_sem,simprocAttr,↓Nat.reduceEqDiff,xx,hg]
  . simp(disch:=apply zq;omega) only[go_sem,simprocAttr,↓Nat.reduceEqDiff,xx,S9]
  . exact hs2
  . rw[hst];rfl
 have sb2:=fun i hi=>sb i hi (hb i hi)
 simp only[L9b,m6]at sb2
 rcases zce (fun i=>V i=true/\(vat x.rl.vy i).h.length<=200/\(vat x.rl.vy i).d.length<=200) x.rl.vy.length with hc|⟨q,hq,hb',he⟩
 case inr =>
  obtain⟨st,hst,hg⟩:=zds (fc q hq he)
  have hs2:=fun i (hi:i<q)=>sc i (by omega) (hb' i hi)
  simp only[L9c,m6]at hs2 hst
  refine⟨false,(fun h=>by cases h),?_⟩
  simp(disch:=apply zq;omega) only[go_sem,simprocAttr,↓Nat.reduceEqDiff,xx,fd6,m6,u1,u2,u3,u4,u5,u6,w1,w2,w3,w4,w5,w6,g1,g2,g3,g4,ct,ca]
  rw[zao (S9 x 3) x.hs.length (by unfold LF;omega)]
  rotate_left
  . simp(disch:=apply zq;omega) only[go_sem,simprocAttr,↓Nat.reduceEqDiff,xx,S9]
  . exact sa2
  . simp(disch:=apply zq;omega) only[go_sem,simprocAttr,↓Nat.reduceEqDiff,xx,S9,g1]
  rw[S9]
  simp(disch:=apply zq;omega) only[go_sem,simprocAttr,↓Nat.reduceEqDiff,xx,g1]
  rw[zao (S9 x 4) x.tk.cs.length (by unfold LF;omega)]
  rotate_left
  . simp(disch:=apply zq;omega) only[go_sem,simprocAttr,↓Nat.reduceEqDiff,xx,S9]
  . exact sb2
  . simp(disch:=apply zq;omega) only[go_sem,simprocAttr,↓Nat.reduceEqDiff,xx,S9,g2]
  rw[S9]
  simp(disch:=apply zq;omega) only[go_sem,simprocAttr,↓Nat.reduceEqDiff,xx,g2]
  rw[zao (S9 x 6) q (by unfold LF;omega),hst]
  . simp(disch:=apply zq;omega) only[go_sem,simprocAttr,↓Nat.reduceEqDiff,xx,hg]
  . simp(disch:=apply zq;omega) only[go_sem,simprocAttr,↓Nat.reduceEqDiff,xx,S9]
  . exact hs2
  . rw[hst];rfl
 have sc2:=fun i hi=>sc i hi (hc i hi)
 simp only[L9c,m6]at sc2
 refine⟨bw&&bs,fun hb2=> ?_,?_⟩
 . rw[Bool.and_eq_true]at hb2
   refine⟨k1,k2,k3,ht.1 rfl,hba rfl,fun y hy=> ?_,fun y hy=> ?_,fun y hy=> ?_,hw.1 hb2.1,hs hb2.2⟩
   . obtain⟨i,hi,rfl⟩:=z8v hy
     exact ha i hi
   . obtain⟨i,hi,rfl⟩:=z8w hy
     exact(hB i hi).1 (hb i hi)
   . obtain⟨i,hi,rfl⟩:=z8t hy
     exact⟨(hc i hi).2.1,(hV i hi).1.1 (hc i hi).1,(hc i hi).2.2⟩
 . simp(disch:=apply zq;omega) only[go_sem,simprocAttr,↓Nat.reduceEqDiff,xx,fd6,m6,u1,u2,u3,u4,u5,u6,w1,w2,w3,w4,w5,w6,g1,g2,g3,g4,ct,ca]
   rw[zao (S9 x 3) x.hs.length (by unfold LF;omega)]
   rotate_left
   . simp(disch:=apply zq;omega) only[go_sem,simprocAttr,↓Nat.reduceEqDiff,xx,S9]
   . exact sa2
   . simp(disch:=apply zq;omega) only[go_sem,simprocAttr,↓Nat.reduceEqDiff,xx,S9,g1]
   rw[S9]
   simp(disch:=apply zq;omega) only[go_sem,simprocAttr,↓Nat.reduceEqDiff,xx,g1]
   rw[zao (S9 x 4) x.tk.cs.length (by unfold LF;omega)]
   rotate_left
   . simp(disch:=apply zq;omega) only[go_sem,simprocAttr,↓Nat.reduceEqDiff,xx,S9]
   . exact sb2
   . simp(disch:=apply zq;omega) only[go_sem,simprocAttr,↓Nat.reduceEqDiff,xx,S9,g2]
   rw[S9]
   simp(disch:=apply zq;omega) only[go_sem,simprocAttr,↓Nat.reduceEqDiff,xx,g2]
   rw[zao (S9 x 6) x.rl.vy.length (by unfold LF;omega)]
   rotate_left
   . simp(disch:=apply zq;omega) only[go_sem,simprocAttr,↓Nat.reduceEqDiff,xx,S9]
   . exact sc2
   . simp(disch:=apply zq;omega) only[go_sem,simprocAttr,↓Nat.reduceEqDiff,xx,S9,g4]
   rw[S9]
   cases bw
   . simp(disch:=apply zq;omega) only[go_sem,simprocAttr,↓Nat.reduceEqDiff,xx,g4,cw,cs,u1,u2,u3,u4,u5,u6,w1,w2,w3,w4,w5,w6]
   . simp(disch:=apply zq;omega) only[go_sem,simprocAttr,↓Nat.reduceEqDiff,xx,g4,cw,cs,u1,u2,u3,u4,u5,u6,w1,w2,w3,w4,w5,w6]
end Go.Proofs.S94.L
namespace Go.Proofs.S94.L
open Go Go.Ev Go.Proofs Go.Proofs.S94
open Go.Proofs.S94.H (strsAV zaa zaj Sml GlK GlR zam zbh nsI zak zint zaw encB zaz zaf)
variable {gl :Gl} {n:Nat}
theorem fw_z {l:List (List UInt8)}(h:Fw l 20):(zbz l).length<=4300:=by
 have key:∀i,i<=l.length->(spre l i).length<=10+210*i:=by
  intro i
  induction i with
  | zero=>intro _;rw[zt7];have:=zaw l.length;omega
  | succ i ih =>
    intro hi
    have h1:=ih (by omega)
    have h2:=zaz l[i]
    have h3:=h.1 l[i] (wG (by omega))
    rw[zt5 (by omega),wA];omega
 have h1:=key _ (wM _)
 have h2:=h.2
 rw[zkd]at h1;omega
theorem zi_z {l:List Int}(h:l.length<=64):(zam l).length<=4300:=by
 have:=@H.zints_len l
 omega
theorem qel {x:Cd}(h:CdS x):∀y∈cdP x,y.length<=4300:=by
 intro y hy
 simp only[cdP,wB,wC,or_false]at hy
 rcases hy with rfl|rfl|rfl|rfl|rfl
 . exact zi_z (by simp)
 . have:=h.p;omega
 . exact fw_z h.cl
 . exact fw_z h.co
 . exact zi_z h.si
theorem qaa {l:List Cd}{i:Nat}{y:List UInt8}(h:y∈csP l i):∃z∈l,y∈cdP z:=by
 simp only[csP,wF,wJ]at h
 obtain⟨_,⟨z,hz,rfl⟩,hy⟩:=h
 exact⟨z,wD hz,hy⟩
theorem z67 {l:List Vy}{i:Nat}{y:List UInt8}(h:y∈vsP l i):∃z∈l,y∈vyP z:=by
 simp only[vsP,wF,wJ]at h
 obtain⟨_,⟨z,hz,rfl⟩,hy⟩:=h
 exact⟨z,wD hz,hy⟩
theorem z9g {l:List Hr}{i:Nat}{y:List UInt8}(h:y∈hsP l i):∃z∈l,y∈hrP z:=by
 simp only[hsP,wF,wJ]at h
 obtain⟨_,⟨z,hz,rfl⟩,hy⟩:=h
 exact⟨z,wD hz,hy⟩
theorem qcd {x:Re}(r:ReR x)(h:ReS x):∀y∈reP x,y.length<=4300:=by
 have w:=h.w.1
 have l16:∀y:List UInt8,y.length=16->y.length<=4300:=fun y h=>by omega
 have l200:∀y:List UInt8,y.length<=200->y.length<=4300:=fun y h=>by omega
 have m1:∀y∈p1 x,y.length<=4300:=by
  intro y hy
  simp only[p1,wH,wI,wB,wC,or_false]at hy
  rcases hy with rfl|rfl|rfl|rfl|rfl|rfl|rfl
  . exact zi_z (by simp)
  . exact l16 _ r.d
  . exact l16 _ r.p
  . exact l200 _ (w _ (by simp))
  . exact l200 _ (w _ (by simp))
  . exact l200 _ (w _ (by simp))
  . exact zi_z (by simp)
 have m2:∀y∈hsP x.hs x.hs.length,y.length<=4300:=fun y hy=>by
  obtain⟨z,hz,hy⟩:=z9g hy
  have:=h.hh z hz
  simp only[hrP,wB,wC,or_false]at hy
  rcases hy with rfl|rfl
  . exact l200 _ this.1
  . exact l200 _ this.2
 have m3:∀y∈tkP x.tk,y.length<=4300:=fun y hy=>by
  simp only[tkP,wH,wI,wB]at hy
  rcases hy with rfl|rfl|rfl|hy
  . exact zi_z (by simp)
  . exact l200 _ (w _ (by simp))
  . exact l16 _ r.t.2.2.2
  . obtain⟨z,hz,hy⟩:=qaa hy
    exact qel (h.cc z hz) y hy
 have m4:∀y∈rlP x.rl,y.length<=4300:=fun y hy=>by
  simp only[rlP,wH,wI,List.append_assoc,wB,wL]at hy
  rcases hy with rfl|rfl|rfl|rfl|hy|hy|hy
  . exact l200 _ (w _ (by simp))
  . exact l200 _ (w _ (by simp))
  . exact l200 _ (w _ (by simp))
  . exact zi_z (by simp)
  . exact l200 _ (h.t.1 y hy)
  . obtain⟨z,hz,hy⟩:=z67 hy
    have:=h.vv z hz
    simp only[vyP,wB,wC,or_false]at hy
    rcases hy with rfl|rfl|rfl
    . exact l200 _ this.h
    . exact l200 _ this.d
    . exact fw_z this.v
  . exact qel h.a y hy
 have m5:∀y∈spP x.sp,y.length<=4300:=fun y hy=>by
  simp only[spP,wB,wC,or_false]at hy
  rcases hy with rfl|rfl|rfl|rfl|rfl
  . exact l200 _ h.s.a
  . exact l200 _ h.s.v
  . exact zi_z (by simp)
  . exact l16 _ r.s.r
  . exact l200 _ h.s.t
 have m6:∀y∈leP x.le,y.length<=4300:=fun y hy=>by
  simp only[leP,wB,wC,or_false]at hy
  subst hy;exact zi_z (by simp)
 intro y hy
 simp only[reP,wL,List.mem_singleton]at hy
 rcases hy with ((((((hy|hy)|hy)|hy)|hy)|rfl)|hy)|rfl
 . exact m1 y hy
 . exact m2 y hy
 . exact m3 y hy
 . exact m4 y hy
 . exact m5 y hy
 . exact l16 _ r.s.s
 . exact m6 y hy
 . exact l16 _ r.l.s
theorem zy7 {x:Re}(h:ReS x):(reP x).length<=131:=by
 have a1:=h.h
 have a2:=h.c
 have a3:=h.v
 have a4:=h.t.2
 unfold reP
 simp only[wA,zzi,zl0 (wM _),zr5,zsh,zkv,zlq,wK]
 omega
theorem zy6 {x:Re}(r:ReR x)(h:ReS x):Sml (reP x):=⟨by have:=zy7 h;omega,fun y hy=>by have:=qcd r h y hy;omega⟩
theorem zy5 {x:Re}(r:ReR x)(h:ReS x):(zbz (reP x)).length<=1048576:=by
 have l:=zy7 h
 have z:=qcd r h
 have key:∀i,i<=(reP x).length->(spre (reP x) i).length<=10+4310*i:=by
  intro i
  induction i with
  | zero=>intro _;rw[zt7];have:=zaw (reP x).length;omega
  | succ i ih =>
    intro hi
    have h1:=ih (by omega)
    have h2:=zaz (reP x)[i]
    have h3:=z (reP x)[i] (wG (by omega))
    rw[zt5 (by omega),wA];omega
 have h1:=key _ (wM _)
 rw[zkd]at h1;omega
end Go.Proofs.S94.L
namespace Go.Proofs.S94.L
open Go Go.Ev Go.Proofs Go.Proofs.S94
open Go.Proofs.S94.H (strsAV zaa zaj Sml GlK GlR zam zbh nsI zak zint zaw encB zaz zaf)
variable {gl :Gl} {n:Nat}
abbrev z3z (x:Re):AV:=.agg [i64 x.site,i64 x.seq,.agg [.str x.ad,.str x.cl,.str x.co,i64 x.sx,.agg [i64 x.lo,i64 x.hi]],.lst true .sc [],qbl x.tk,bAV x.pol,z78 x.rl,i64 x.us,spAV x.sp,i64 x.mo,.agg [i64 x.fr,i64 x.to],bAV x.dat,leAV x.le,i64 x.he,i64 x.ca]
theorem zzf (h:9<=n){x:Re}(hx:ReOk x)(n1:x.hs=[])(n2:x.tk.cs=[])(n3:x.rl.tg=[])(n4:x.rl.vy=[]):call gl tab n 41 [z3z x] []=some (.lst false .sc (strsAV (reP x)),[],[]):=by
 obtain⟨d,rfl⟩:=wN h
 have hh:=hx.h
 have tl:=zr5 x.tk
 have rl:=zsh x.rl
 have tc:=hx.t.cl
 have rt:=hx.r.t
 have rv:=hx.r.v
 have hl:=zl0 (l:=x.hs) (wM _)
 have c1:=@z6i gl (d+8) (by omega) _ hx.i 12 rfl
 have c2:=@zh1 gl (d+8) (by omega) [zam (nmS x)] [x.dat,x.pol,x.ad,x.cl,x.co] (by simp) (by simp) (by simp) 5 rfl
 have c3:=@zlx gl (d+8) (by omega) ([zam (nmS x)]++[x.dat,x.pol,x.ad,x.cl,x.co]) _ (by simp) (by simp) hx.a 3 rfl
 have e1:[zam (nmS x)]++[x.dat,x.pol,x.ad,x.cl,x.co]++[zam [x.sx,x.lo,x.hi]]=p1 x:=rfl
 rw[e1]at c3
 have pl:=zzi x
 have a1:(p1 x++hsP x.hs x.hs.length).length=7+2*x.hs.length:=by rw[wA];omega
 have a2:(p1 x++hsP x.hs x.hs.length++tkP x.tk).length<=100:=by rw[wA];omega
 have a3:(p1 x++hsP x.hs x.hs.length++tkP x.tk++rlP x.rl).length<=200:=by rw[wA];omega
 have a4:(p1 x++hsP x.hs x.hs.length++tkP x.tk++rlP x.rl++spP x.sp).length<=210:=by rw[wA,zkv];omega
 have a5:(p1 x++hsP x.hs x.hs.length++tkP x.tk++rlP x.rl++spP x.sp++[x.sp.sgn]).length<=220:=by rw[wA,wK];omega
 have a6:(p1 x++hsP x.hs x.hs.length++tkP x.tk++rlP x.rl++spP x.sp++[x.sp.sgn]++leP x.le).length<=230:=by rw[wA,zlq];omega
 have z0:(p1 x++hsP x.hs x.hs.length).length≠0:=by rw[a1];omega
 have z2:(p1 x++hsP x.hs x.hs.length++tkP x.tk).length≠0:=by rw[wA,a1];omega
 have z3:(p1 x++hsP x.hs x.hs.length++tkP x.tk++rlP x.rl).length≠0:=by rw[wA];omega
 have z4:(p1 x++hsP x.hs x.hs.length++tkP x.tk++rlP x.rl++spP x.sp).length≠0:=by rw[wA];omega
 have z5:(p1 x++hsP x.hs x.hs.length++tkP x.tk++rlP x.rl++spP x.sp++[x.sp.sgn]).length≠0:=by rw[wA];omega
 have z6:(p1 x++hsP x.hs x.hs.length++tkP x.tk++rlP x.rl++spP x.sp++[x.sp.sgn]++leP x.le).length≠0:=by rw[wA];omega
 have c4:=@zya gl (d+8) (by omega) _ _ hx.t n2 z0 (by omega)
 have c5:=@z3g gl (d+8) (by omega) _ _ hx.r n3 n4 z2 (by omega)
 have k1:=@z58 gl (d+8) (by omega) x.sp hx.s
 have c6:=@zx2 gl (d+8) (by omega) false _ (spP x.sp) z3 (by omega) (by rw[zkv];omega)
 have c7:=@zh1 gl (d+8) (by omega) _ [x.sp.sgn] z4 (by omega) (by simp) 1 rfl
 have k2:=@z6g gl (d+8) (by omega) x.le hx.l
 have c8:=@zx2 gl (d+8) (by omega) false _ (leP x.le) z5 (by omega) (by rw[zlq];omega)
 have c9:=@zh1 gl (d+8) (by omega) _ [x.le.sgn] z6 (by omega) (by simp) 1 rfl
 have er:reP x=p1 x++hsP x.hs x.hs.length++tkP x.tk++rlP x.rl++spP x.sp++[x.sp.sgn]++leP x.le++[x.le.sgn]:=rfl
 rw[er]
 rw[zae (fd:=fd41) rfl]
 have u1:=b16 hx.d
 have u2:=b16 hx.p
 have u3:=b16 hx.t.s
 have u4:=b16 hx.s.r
 have u5:=b16 hx.s.s
 have u6:=b16 hx.l.s
 have t1:=b16t hx.d
 have t2:=b16t hx.p
 have t5:=b16t hx.s.s
 have t6:=b16t hx.l.s
 have w1:=H.bytes_all x.dat
 have w2:=H.bytes_all x.pol
 have w3:=H.bytes_all x.tk.sgn
 have w4:=H.bytes_all x.sp.body
 have w5:=H.bytes_all x.sp.sgn
 have w6:=H.bytes_all x.le.sgn
 have e4:strsAV [x.dat,x.pol,x.ad,x.cl,x.co]=[.str x.dat,.str x.pol,.str x.ad,.str x.cl,.str x.co]:=rfl
 have e5:nsI (nmS x)=[i64 x.site,i64 x.seq,i64 x.mo,i64 x.fr,i64 x.to,i64 x.he,i64 x.ca,i64 x.us,i64 0,i64 0,i64 0,i64 0]:=by
  show [i64 x.site,i64 x.seq,i64 x.mo,i64 x.fr,i64 x.to,i64 x.he,i64 x.ca,i64 x.us,i64 x.hs.length,i64 x.tk.cs.length,i64 x.rl.tg.length,i64 x.rl.vy.length]=_
  rw[n1,n2,n3,n4];rfl
 have e6:nsI [x.sx,x.lo,x.hi]=[i64 x.sx,i64 x.lo,i64 x.hi]:=rfl
 have e7:strsAV [x.sp.sgn]=[.str x.sp.sgn]:=rfl
 have e8:strsAV [x.le.sgn]=[.str x.le.sgn]:=rfl
 have hQ0:p1 x++hsP x.hs x.hs.length=p1 x:=by rw[n1];simp[hsP]
 rw[hQ0]at c4 c5 c6 c7 c8 c9 ⊢
 unfold bx gw gi at *
 rw[e4]at c2
 rw[e5]at c1
 rw[e6]at c3
 rw[e7]at c7
 rw[e8]at c9
 clear hQ0 e4 e5 e6 e7 e8 er e1 a1 a2 a3 a4 a5 a6 z0 z2 z3 z4 z5 z6 tl rl hl pl hx
 generalize [zam (nmS x)]=q1 at *
 generalize q1++[x.dat,x.pol,x.ad,x.cl,x.co]=q2 at *
 generalize p1 x=q3 at *
 generalize q3++tkP x.tk=q5 at *
 generalize q5++rlP x.rl=q6 at *
 generalize q6++spP x.sp=q7 at *
 generalize q7++[x.sp.sgn]=q8 at *
 generalize q8++leP x.le=q9 at *
 generalize q9++[x.le.sgn]=qa at *
 have l1:=zaa q1
 have l2:=zaa q2
 have l3:=zaa q3
 have l5:=zaa q5
 have l6:=zaa q6
 have l7:=zaa q7
 have l8:=zaa q8
 have l9:=zaa q9
 have la:=zaa qa
 have s1:=zal q1
 have s2:=zal q2
 have s3:=zal q3
 have s5:=zal q5
 have s6:=zal q6
 have s7:=zal q7
 have s8:=zal q8
 have s9:=zal q9
 have sa:=zal qa
 have ta:List.take qa.length (strsAV qa)=strsAV qa:=List.take_of_length_le (by omega)
 simp(maxSteps:=1000000) (disch:=apply zq;omega) only[go_sem,simprocAttr,↓Nat.reduceEqDiff,xx,fd41,m41,u1,u2,u3,u4,u5,u6,t1,t2,t5,t6,w1,w2,w3,w4,w5,w6,c1,c2,c3,l1,l2,l3,s1,s2,s3]
 rw[zao (fun i=>(⟨[.set 85 (i64 i),.set 84 (i64 0),.set 83 (.lst true .sc []),.set 4 (.fn 2000064 [.ptr 9 []]),.set 3 (.ptr 9 []),.set 1 (.ptr 1 [])],[(6090,gw q3),(9,bx 6090 q3),(1,.fix sRe (z3z x))]⟩:St)) 0 (by unfold LF;omega)]
 . simp(maxSteps:=1000000) (disch:=apply zq;omega) only[go_sem,simprocAttr,↓Nat.reduceEqDiff,xx,u1,u2,u3,u4,u5,u6,t1,t2,t5,t6,w1,w2,w3,w4,w5,w6,c4,c5,k1,c6,c7,k2,c8,c9,l3,l5,l6,l7,l8,l9,la,s3,s5,s6,s7,s8,s9,sa,ta]
 . simp(disch:=apply zq;omega) only[go_sem,simprocAttr,↓Nat.reduceEqDiff,xx,l1,l2,l3]
 . intro i hi;omega
 . simp(disch:=apply zq;omega) only[go_sem,simprocAttr,↓Nat.reduceEqDiff,xx,l3,s3]
end Go.Proofs.S94.L
