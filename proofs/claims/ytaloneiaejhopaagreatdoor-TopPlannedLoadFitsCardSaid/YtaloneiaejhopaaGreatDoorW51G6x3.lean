/-
  Flows: Send. No condition.
-/
import Derived.Test.YtaloneiaejhopaaGreatDoorW51G5x3
set_option linter.all false
open List renaming cons_append->wB,nil_append->wC
open Nat renaming reduceEqDiff->wD,exists_eq_add_of_le'->wE
open Int renaming eq_ofNat_of_zero_le->wF
open Option renaming bind_some->wG
namespace Go.Proofs.S51
open Go Go.Ev Go.Proofs Go.Fl
variable {gl :Gl} {n:Nat}
structure SR (g:Nt)(s to:Nat)(A:Int)(fl pr:List Int)(sent:Int)(cut:List Nat):Prop where
 si:SI g 1048576 s to A fl pr sent
 c:(sent=A/\cut=[])\/(sent<A/\∃out,DI g fl pr s out []/\nth out to=far/\cut=cK out g.n)
abbrev fV (g:Nt)(fl pr:List Int)(sent:Int)(cut:List Nat):AV:=.agg [i64 sent,i64 (tot g.a fl g.a.length),.lst false .sc (ns fl),.lst false .sc (ns pr),lV .sc (us cut)]
structure E9 where
 fl:List Int
 pr:List Int
 sent:Int
theorem gE {out:List Int}{v:Nat}:∀{k:Nat},v∈cK out k↔v<k/\nth out v<far
 | 0=>by simp[cK]
 | k+1=>by
   rw[cK];split
   . rename_i h;rw[List.mem_append,gE,List.mem_singleton];constructor
     . rintro (⟨h1,h2⟩|rfl)
       . exact⟨by omega,h2⟩
       . exact⟨by omega,h⟩
     . rintro ⟨h1,h2⟩;by_cases e:v=k
       . exact .inr e
       . exact .inl ⟨by omega,h2⟩
   . rename_i h;rw[gE];constructor
     . rintro ⟨h1,h2⟩;exact⟨by omega,h2⟩
     . rintro ⟨h1,h2⟩;by_cases e:v=k
       . rw[e]at h2;exact absurd h2 h
       . exact⟨by omega,h2⟩
set_option maxHeartbeats 4000000 in
theorem MS {g:Nt}{b:Bool}{sh:Sh}{s to:Nat}{A:Int}(hg:GOk g)(hsh:g.a=[]\/sh=yA4)(h0:g.a=[]->A=0)(hs:s<g.n)(ht:to<g.n)(hne:s≠to)(hA:0<=A/\A<=1099511627776)(ha:g.a.length<=2048)(hn:3*g.n+13<=n) :
  ∃fl pr sent cut,SR g s to A fl pr sent cut/\call gl tab n 21 [nV g b sh,i64 (s:Int),i64 (to:Int),i64 A] []=some (.tup [fV g fl pr sent cut,i64 0],[],[]):=by
 obtain⟨d,rfl⟩:∃d,n=d+1:=⟨n-1,by omega⟩;have c46:=@Ls gl d g b sh hg hsh (by omega) (by omega) ha;have c47:=@Me gl d (by omega) g b sh s to A hs ht hne hA;have hz:=yb g.a.length 0;have hl:g.a.length<=LIM:=by unfold LIM;omega
 have c48:=@LB gl d g.n g.a.length b sh g.a (List.replicate g.a.length 0) (by omega) (by have:=hg.n;omega) (by omega) hsh hg.ok.f hg.ok.t hg.ok.ne;have hsi0:=XL (s:=s) (to:=to) hg.ok (by decide) hA.1;have ho:(dD g.a g.a.length g.n).map (lV .sc)=Ce g:=rfl;rw[ho]at c48;obtain⟨a,hia,hfin,hiter⟩:=fF (f:=evC gl (call gl tab d) L18) (ks:=K18) (fun a:E9=>S18 g b sh s to A a.fl a.pr a.sent) (fun a=>SI g 1048576 s to A a.fl a.pr a.sent)
  (fun a=>a.sent=A\/(a.sent<A/\∃out,DI g a.fl a.pr s out []/\nth out to=far/\call gl tab d 57 [.ptr 100000 [],i64 (s:Int)] (nwH g b sh a.fl a.pr)=some (.sl 20000 [] 0 g.n,nwH g b sh a.fl a.pr,[.grow .sc (ns out)]))) (fun a=>(A-a.sent).toNat) (a0:=⟨List.replicate g.a.length 0,List.replicate g.n 0,0⟩)
  (by unfold LF;simp only;omega) hsi0
  (fun a hia=>by
    have hsa:=hia.sa;by_cases hlt:a.sent<A
    . have hgn:g.a≠[]:=fun e=>by have:=h0 e;omega
      have hsh:=hsh.resolve_left hgn;subst hsh;obtain⟨out,hdi,c49⟩:=@yU gl d g b yA4 a.fl a.pr s to hg hia.fb hia.rn hia.pb hs (.inr rfl) (by omega);by_cases hf:nth out to=far
      . refine .inl ⟨.inr ⟨hlt,out,hdi,hf,c49⟩,?_⟩;have x3:=bc (show to<out.length by rw[hdi.l];exact ht);rw[hf]at x3;have hcn:cK out g.n≠[]:=fun e=>by have:s∈cK out g.n:=gE.2 ⟨hs,by rw[hdi.sz];unfold far;decide⟩;rw[e]at this;cases this
        have c50:=@qz gl d g b yA4 a.fl a.pr out a.sent (by omega) (.inr rfl) hg hia.fb hia.pb.l hdi.l hcn;have e1:(far==4611686018427387904)=true:=by decide
        simp only[wB,wC]at c50;obtain⟨fl,pr,sent⟩:=a;simp only at hlt c49 c50 ⊢;simp(disch:=apply zq;omega) only[go_sem,simprocAttr,↓wD,xx,L18,S18,f18,h18,hlt,c49,bH,x3,e1,ae,hdi.l,c50,frV]
      . obtain⟨fl',pr',sent',h1,h2,h3⟩:=@Q5 gl d g b s to A a.fl a.pr a.sent hg hgn hs ht hA.2 (by omega) hia hlt out hdi hf c49;exact .inr ⟨⟨fl',pr',sent'⟩,h1,by simp only;omega,h3⟩
    . refine .inl ⟨.inl (by omega),?_⟩;obtain⟨fl,pr,sent⟩:=a;simp only at hlt ⊢;simp(disch:=apply zq;omega) only[go_sem,simprocAttr,↓wD,xx,L18,S18,f18,h18])
 obtain⟨fl,pr,sent⟩:=a;simp only at hfin hiter hia;simp only[L18,wq]at hiter;have hft:=bH fl;have hpt:=bH pr;have t1:=eK hia.fb.l;have t2:=eK hia.pb.l;have hfl:=hia.fb.l;have hpl:=hia.pb.l;rcases hfin with hfin|⟨hlt,out,hdi,hf,c49⟩
 . refine⟨fl,pr,sent,[],⟨hia,.inl ⟨hfin,rfl⟩⟩,?_⟩;subst hfin;have c50:=@AX gl d g b sh fl pr sent (by omega) hsh hg hia.fb hia.pb.l;have e0:lV .sc (us [])= .lst true .sc []:=rfl;rw[au (fd:=Kw) rfl];simp(disch:=apply zq;omega) only[go_sem,simprocAttr,↓wD,xx,Kw,m21,c46,c47,ak,hl,hz,c48,bH,e0];rw[hiter]
   . simp(disch:=apply zq;omega) only[go_sem,simprocAttr,↓wD,xx,S18,f18,h18,c50,frV,ae,hfl,hpl,t1,t2];rfl
   . simp(disch:=apply zq;omega) only[go_sem,simprocAttr,↓wD,xx,S18,f18,h18]
 . refine⟨fl,pr,sent,cK out g.n,⟨hia,.inr ⟨hlt,out,hdi,hf,rfl⟩⟩,?_⟩;have x3:=bc (show to<out.length by rw[hdi.l];exact ht);rw[hf]at x3;have hcn:cK out g.n≠[]:=fun e=>by have:s∈cK out g.n:=gE.2 ⟨hs,by rw[hdi.sz];unfold far;decide⟩;rw[e]at this;cases this
   have c50:=@qz gl d g b sh fl pr out sent (by omega) hsh hg hia.fb hia.pb.l hdi.l hcn;have e1:(far==4611686018427387904)=true:=by decide
   simp only[wB,wC]at c50;have e0:lV .sc (us (cK out g.n))= .lst false .sc (us (cK out g.n)):=by unfold lV;rw[fR,if_neg];rw[List.isEmpty_iff];exact hcn
   have ul:=aj (cK out g.n);have hct:List.take (cK out g.n).length (us (cK out g.n))=us (cK out g.n):=List.take_of_length_le (by omega);rw[au (fd:=Kw) rfl];simp(disch:=apply zq;omega) only[go_sem,simprocAttr,↓wD,xx,Kw,m21,c46,c47,ak,hl,hz,c48,bH,e0];rw[hiter]
   . simp(disch:=apply zq;omega) only[go_sem,simprocAttr,↓wD,xx,S18,f18,h18,hlt,c49,bH,x3,e1,ae,hdi.l,c50,frV,hfl,hpl,t1,t2,ul,hct];unfold fV;rw[e0]
   . simp(disch:=apply zq;omega) only[go_sem,simprocAttr,↓wD,xx,S18,f18,h18]
abbrev sV (x:Sp):AV:=.agg [i64 x.kd,i64 x.nu,i64 x.cp]
abbrev dV (x:Rd):AV:=.agg [i64 x.f,i64 x.t,i64 x.c,i64 x.k]
def ps (l:List Sp):List AV:=l.map sV
def ds (l:List Rd):List AV:=l.map dV
theorem ah (l:List Sp):(ps l).length=l.length:=by simp[ps]
theorem aQ (l:List Rd):(ds l).length=l.length:=by simp[ds]
theorem da {l:List Sp}{i:Nat}(h:i<l.length):(ps l)[i]? =some (.agg [i64 (spt l i).kd,i64 (spt l i).nu,i64 (spt l i).cp]):=by simp[ps,spt,h]
theorem Be {l:List Rd}{i:Nat}(h:i<l.length):(ds l)[i]? =some (.agg [i64 (rdt l i).f,i64 (rdt l i).t,i64 (rdt l i).c,i64 (rdt l i).k]):=by simp[ds,rdt,h]
structure PF where
 b:Bool
 s:Sh
 c:Bool
 t:Sh
abbrev sSp :Sh:=.st [.sc,.sc,.sc]
abbrev sRd :Sh:=.st [.sc,.sc,.sc,.sc]
structure PFOk (q:PF)(p:List Sp)(r:List Rd):Prop where
 s:p=[]\/q.s=sSp
 t:r=[]\/q.t=sRd
abbrev plV (q:PF)(p:List Sp)(r:List Rd):AV:=.agg [.lst q.b q.s (ps p),.lst q.c q.t (ds r)]
structure SpOk (x:Sp):Prop where
 c:0<=x.cp/\x.cp<=1073741824
 k:(x.kd=1/\0<=x.nu/\x.nu<64)\/((x.kd=2\/x.kd=3)/\1<=x.nu/\x.nu<=1073741824)
theorem vA (h:1<=n)(x:Sp):∃b:Bool,(b=true↔SpOk x)/\call gl tab n 74 [sV x] []=some (.bool b,[],[]):=by
 obtain⟨d,rfl⟩:=wE h;rw[au (fd:=oH) rfl];by_cases h1:0<=x.cp
 case neg=>exact⟨false,⟨(fun h=>by cases h),fun h=>absurd h.c.1 h1⟩,by simp(disch:=apply zq;omega) only[go_sem,simprocAttr,↓wD,xx,oH,m74]⟩
 by_cases h2:x.cp<=1073741824
 case neg=>exact⟨false,⟨(fun h=>by cases h),fun h=>absurd h.c.2 h2⟩,by simp(disch:=apply zq;omega) only[go_sem,simprocAttr,↓wD,xx,oH,m74]⟩
 by_cases k1:x.kd=1
 . by_cases h3:0<=x.nu
   case neg=>exact⟨false,⟨(fun h=>by cases h),fun h=>by have:=h.k;omega⟩,by simp(disch:=apply zq;omega) only[go_sem,simprocAttr,↓wD,xx,oH,m74]⟩
   by_cases h4:x.nu<64
   case neg=>exact⟨false,⟨(fun h=>by cases h),fun h=>by have:=h.k;omega⟩,by simp(disch:=apply zq;omega) only[go_sem,simprocAttr,↓wD,xx,oH,m74]⟩
   exact⟨true,⟨fun _=>⟨⟨h1,h2⟩,.inl ⟨k1,h3,h4⟩⟩,fun _=>rfl⟩,by simp(disch:=apply zq;omega) only[go_sem,simprocAttr,↓wD,xx,oH,m74]⟩
 by_cases k2:x.kd=2
 . by_cases h3:1<=x.nu
   case neg=>exact⟨false,⟨(fun h=>by cases h),fun h=>by have:=h.k;omega⟩,by simp(disch:=apply zq;omega) only[go_sem,simprocAttr,↓wD,xx,oH,m74]⟩
   by_cases h4:x.nu<=1073741824
   case neg=>exact⟨false,⟨(fun h=>by cases h),fun h=>by have:=h.k;omega⟩,by simp(disch:=apply zq;omega) only[go_sem,simprocAttr,↓wD,xx,oH,m74]⟩
   exact⟨true,⟨fun _=>⟨⟨h1,h2⟩,.inr ⟨.inl k2,h3,h4⟩⟩,fun _=>rfl⟩,by simp(disch:=apply zq;omega) only[go_sem,simprocAttr,↓wD,xx,oH,m74]⟩
 by_cases k3:x.kd=3
 . by_cases h3:1<=x.nu
   case neg=>exact⟨false,⟨(fun h=>by cases h),fun h=>by have:=h.k;omega⟩,by simp(disch:=apply zq;omega) only[go_sem,simprocAttr,↓wD,xx,oH,m74]⟩
   by_cases h4:x.nu<=1073741824
   case neg=>exact⟨false,⟨(fun h=>by cases h),fun h=>by have:=h.k;omega⟩,by simp(disch:=apply zq;omega) only[go_sem,simprocAttr,↓wD,xx,oH,m74]⟩
   exact⟨true,⟨fun _=>⟨⟨h1,h2⟩,.inr ⟨.inr k3,h3,h4⟩⟩,fun _=>rfl⟩,by simp(disch:=apply zq;omega) only[go_sem,simprocAttr,↓wD,xx,oH,m74]⟩
 exact⟨false,⟨(fun h=>by cases h),fun h=>by have:=h.k;omega⟩,by simp(disch:=apply zq;omega) only[go_sem,simprocAttr,↓wD,xx,oH,m74]⟩
structure RdOk (p:List Sp)(x:Rd):Prop where
 f:0<=x.f/\x.f<p.length
 t:0<=x.t/\x.t<p.length
 ne:x.f≠x.t
 c:0<=x.c/\x.c<=1073741824
 k:0<=x.k/\x.k<=1048576
 a:(spt p x.f.toNat).kd≠3
 z:(spt p x.t.toNat).kd≠1
theorem vz (h:1<=n){q:PF}{p:List Sp}{r:List Rd}(hq:PFOk q p r)(hp:p.length<=1000)(x:Rd):∃b:Bool,(b=true↔RdOk p x)/\call gl tab n 75 [plV q p r,dV x] []=some (.bool b,[],[]):=by
 obtain⟨d,rfl⟩:=wE h;rw[au (fd:=oG) rfl];by_cases f1:0<=x.f
 case neg=>exact⟨false,⟨(fun h=>by cases h),fun h=>absurd h.f.1 f1⟩,by simp(disch:=apply zq;omega) only[go_sem,simprocAttr,↓wD,xx,oG,m75,ah]⟩
 by_cases f2:x.f<p.length
 case neg=>exact⟨false,⟨(fun h=>by cases h),fun h=>absurd h.f.2 f2⟩,by simp(disch:=apply zq;omega) only[go_sem,simprocAttr,↓wD,xx,oG,m75,ah]⟩
 by_cases t1:0<=x.t
 case neg=>exact⟨false,⟨(fun h=>by cases h),fun h=>absurd h.t.1 t1⟩,by simp(disch:=apply zq;omega) only[go_sem,simprocAttr,↓wD,xx,oG,m75,ah]⟩
 by_cases t2:x.t<p.length
 case neg=>exact⟨false,⟨(fun h=>by cases h),fun h=>absurd h.t.2 t2⟩,by simp(disch:=apply zq;omega) only[go_sem,simprocAttr,↓wD,xx,oG,m75,ah]⟩
 by_cases ne:x.f=x.t
 . have e:(x.f==x.t)=true:=by rw[beq_iff_eq];exact ne
   exact⟨false,⟨(fun h=>by cases h),fun h=>absurd ne h.ne⟩,by simp(disch:=apply zq;omega) only[go_sem,simprocAttr,↓wD,xx,oG,m75,ah,e]⟩
 have e:(x.f==x.t)=false:=by rw[beq_eq_false_iff_ne];exact ne
 by_cases c1:0<=x.c
 case neg=>exact⟨false,⟨(fun h=>by cases h),fun h=>absurd h.c.1 c1⟩,by simp(disch:=apply zq;omega) only[go_sem,simprocAttr,↓wD,xx,oG,m75,ah,e]⟩
 by_cases c2:x.c<=1073741824
 case neg=>exact⟨false,⟨(fun h=>by cases h),fun h=>absurd h.c.2 c2⟩,by simp(disch:=apply zq;omega) only[go_sem,simprocAttr,↓wD,xx,oG,m75,ah,e]⟩
 by_cases k1:0<=x.k
 case neg=>exact⟨false,⟨(fun h=>by cases h),fun h=>absurd h.k.1 k1⟩,by simp(disch:=apply zq;omega) only[go_sem,simprocAttr,↓wD,xx,oG,m75,ah,e]⟩
 by_cases k2:x.k<=1048576
 case neg=>exact⟨false,⟨(fun h=>by cases h),fun h=>absurd h.k.2 k2⟩,by simp(disch:=apply zq;omega) only[go_sem,simprocAttr,↓wD,xx,oG,m75,ah,e]⟩
 have hne:p≠[]:=fun h0=>by rw[h0]at f2;simp at f2;omega
 have hs:q.s=sSp:=hq.s.resolve_left hne;obtain⟨qb,qs,qc,qt⟩:=q;simp only at hs;subst hs;obtain⟨xf,xt,xc,xk⟩:=x;simp only at f1 f2 t1 t2 e ne c1 c2 k1 k2;obtain⟨i,rfl⟩:=wF f1;obtain⟨j,rfl⟩:=wF t1;have x1:=da (show i<p.length by omega);have x2:=da (show j<p.length by omega);by_cases a:(spt p i).kd=3
 . exact⟨false,⟨(fun h=>by cases h),fun h=>absurd a (by simpa using h.a)⟩,by simp(disch:=apply zq;omega) only[go_sem,simprocAttr,↓wD,xx,oG,m75,ah,e,x1,x2]⟩
 by_cases z:(spt p j).kd=1
 . exact⟨false,⟨(fun h=>by cases h),fun h=>absurd z (by simpa using h.z)⟩,by simp(disch:=apply zq;omega) only[go_sem,simprocAttr,↓wD,xx,oG,m75,ah,e,x1,x2]⟩
 exact⟨true,⟨fun _=>⟨⟨f1,f2⟩,⟨t1,t2⟩,ne,⟨c1,c2⟩,⟨k1,k2⟩,by simpa using a,by simpa using z⟩,fun _=>rfl⟩,by simp(disch:=apply zq;omega) only[go_sem,simprocAttr,↓wD,xx,oG,m75,ah,e,x1,x2]⟩
theorem iy (p:Nat->Prop)(N:Nat):(∀i,i<N->p i)\/∃k,k<N/\(∀j,j<k->p j)/\¬p k:=by
 classical
 by_cases h:∀i,i<N->p i
 . exact .inl h
 . obtain⟨h1,h2,h3⟩:=oD p N;refine .inr ⟨lh p N,?_⟩;rcases Nat.lt_or_ge (lh p N) N with h4|h4
   . exact⟨h4,h2,h3 h4⟩
   . exact absurd (fun i hi=>h2 i (by omega)) h
abbrev sPl :Sh:=.st [.sc,.sc]
structure PK (p:List Sp)(r:List Rd):Prop where
 ok:POk p r
 s:∀i,i<p.length->SpOk (spt p i)
noncomputable def L23:MC:=wq 0 m44
noncomputable def DC:MC:=wq 2 m44
noncomputable def He:MC:=wq 4 m44
def S23 (q:PF)(p:List Sp)(r:List Rd)(i:Nat):St:=⟨[.set 3 (i64 (i:Int)),.set 1 (.ptr 1 [])],[(1,.fix sPl (plV q p r))]⟩
def qO (q:PF)(p:List Sp)(r:List Rd)(i k:Nat):St:=⟨[.set 5 (i64 (k:Int)),.set 3 (i64 (i:Int)),.set 1 (.ptr 1 [])],[(1,.fix sPl (plV q p r))]⟩
def uB (q:PF)(p:List Sp)(r:List Rd)(i:Nat):St:=⟨[.set 6 (i64 (i:Int)),.set 1 (.ptr 1 [])],[(1,.fix sPl (plV q p r))]⟩
def Df (p:List Sp)(i k:Nat):Prop:=¬((spt p k).kd=(spt p i).kd/\(spt p k).nu=(spt p i).nu)
def C23 (p:List Sp)(i:Nat):Prop:=SpOk (spt p i)/\∀k,k<i->Df p i k
section
variable {d :Nat} {q:PF} {p:List Sp} {r:List Rd} (hq:PFOk q p r) (hp:p.length<=100) (hr:r.length<=1500)
include hq hp hr
theorem kS {i:Nat}(hi:i<p.length):q.s=sSp:=hq.s.resolve_left fun h=>by rw[h]at hi;simp at hi
theorem Bd {i:Nat}(hi:i<r.length):q.t=sRd:=hq.t.resolve_left fun h=>by rw[h]at hi;simp at hi
theorem DQ {i k:Nat}(hi:i<p.length)(hk:k<i)(hd:Df p i k):aK [.slot 1,.slot 3,.slot 5,.key 1] (evC gl (call gl tab d) DC (qO q p r i k))=some (qO q p r i (k+1)):=by
 have hs:=kS hq hp hr hi;obtain⟨qb,qs,qc,qt⟩:=q;simp only at hs;subst hs;have x1:=da hi;have x2:=da (show k<p.length by omega)
 cases e1:((spt p k).kd==(spt p i).kd)with
 | false=>simp(disch:=apply zq;omega) only[go_sem,simprocAttr,↓wD,xx,DC,qO,ah,x1,x2,e1]
 | true =>
   have e2:((spt p k).nu==(spt p i).nu)=false:=by rw[beq_eq_false_iff_ne];exact fun h=>hd ⟨by simpa using e1,h⟩
   simp(disch:=apply zq;omega) only[go_sem,simprocAttr,↓wD,xx,DC,qO,ah,x1,x2,e1,e2]
theorem Og {i k:Nat}(hi:i<p.length)(hk:k<i)(hd:¬Df p i k):sC 2 (evC gl (call gl tab d) DC (qO q p r i k))=some (.ret,i64 6):=by
 have hs:=kS hq hp hr hi;obtain⟨qb,qs,qc,qt⟩:=q;simp only at hs;subst hs;have x1:=da hi;have x2:=da (show k<p.length by omega);unfold Df at hd;rw[Classical.not_not]at hd;have e1:((spt p k).kd==(spt p i).kd)=true:=by simpa using hd.1
 have e2:((spt p k).nu==(spt p i).nu)=true:=by simpa using hd.2
 simp(disch:=apply zq;omega) only[go_sem,simprocAttr,↓wD,xx,DC,qO,ah,x1,x2,e1,e2]
theorem HB {i:Nat}(hi:i<p.length)(hc:C23 p i):aK [.slot 1,.slot 3,.key 1] (evC gl (call gl tab (d+1)) L23 (S23 q p r i))=some (S23 q p r (i+1)):=by
 have hs:=kS hq hp hr hi;have hb:=fun k hk=>DQ (gl:=gl) (d:=d+1) hq hp hr hi hk (hc.2 k hk)
 simp only[DC,wq]at hb;obtain⟨b,hb1,c1⟩:=@vA gl (d+1) (by omega) (spt p i);rw[hb1.2 hc.1]at c1;have x1:=da hi;obtain⟨qb,qs,qc,qt⟩:=q;simp only at hs;subst hs;simp(disch:=apply zq;omega) only[go_sem,simprocAttr,↓wD,xx,L23,S23,ah,x1,c1];rw[aE (qO ⟨qb,sSp,qc,qt⟩ p r i) i (by unfold LF;omega)]
 . simp(disch:=apply zq;omega) only[go_sem,simprocAttr,↓wD,xx,qO]
 . simp(disch:=apply zq;omega) only[go_sem,simprocAttr,↓wD,xx,qO]
 . exact hb
 . simp(disch:=apply zq;omega) only[go_sem,simprocAttr,↓wD,xx,qO]
theorem TN {i:Nat}(hi:i<p.length)(hc:¬C23 p i):∃e:Int,e≠0/\sC 2 (evC gl (call gl tab (d+1)) L23 (S23 q p r i))=some (.ret,i64 e):=by
 have hs:=kS hq hp hr hi;obtain⟨b,hb1,c1⟩:=@vA gl (d+1) (by omega) (spt p i);have x1:=da hi
 cases b with
 | false =>refine⟨400,by decide,?_⟩;obtain⟨qb,qs,qc,qt⟩:=q;simp only at hs;subst hs;simp(disch:=apply zq;omega) only[go_sem,simprocAttr,↓wD,xx,L23,S23,ah,x1,c1]
 | true =>
 rcases iy (Df p i) i with hA|⟨k,hk,hb,he⟩
 . exact absurd ⟨hb1.1 rfl,hA⟩ hc
 obtain⟨st,hst,hg⟩:=ji (Og (gl:=gl) (d:=d+1) hq hp hr hi hk he);have hb2:=fun j (hj:j<k)=>DQ (gl:=gl) (d:=d+1) hq hp hr hi (by omega) (hb j hj)
 simp only[DC,wq]at hb2 hst;obtain⟨qb,qs,qc,qt⟩:=q;simp only at hs;subst hs;refine⟨6,by decide,?_⟩;simp(disch:=apply zq;omega) only[go_sem,simprocAttr,↓wD,xx,L23,S23,ah,x1,c1];rw[aE (qO ⟨qb,sSp,qc,qt⟩ p r i) k (by unfold LF;omega),hst]
 . simp(disch:=apply zq;omega) only[go_sem,simprocAttr,↓wD,xx,hg]
 . simp(disch:=apply zq;omega) only[go_sem,simprocAttr,↓wD,xx,qO]
 . exact hb2
 . rw[hst];rfl
theorem DP {i:Nat}(hi:i<r.length)(hc:RdOk p (rdt r i)):aK [.slot 1,.slot 6,.key 1] (evC gl (call gl tab (d+1)) He (uB q p r i))=some (uB q p r (i+1)):=by have hs:=Bd hq hp hr hi;obtain⟨b,hb1,c1⟩:=@vz gl (d+1) (by omega) q p r hq (by omega) (rdt r i);rw[hb1.2 hc]at c1;have x1:=Be hi;obtain⟨qb,qs,qc,qt⟩:=q;simp only at hs;subst hs;simp(disch:=apply zq;omega) only[go_sem,simprocAttr,↓wD,xx,He,uB,aQ,x1,c1]
theorem Of {i:Nat}(hi:i<r.length)(hc:¬RdOk p (rdt r i)):sC 2 (evC gl (call gl tab (d+1)) He (uB q p r i))=some (.ret,i64 400):=by
 have hs:=Bd hq hp hr hi;obtain⟨b,hb1,c1⟩:=@vz gl (d+1) (by omega) q p r hq (by omega) (rdt r i);have x1:=Be hi
 cases b with
 | true=>exact absurd (hb1.1 rfl) hc
 | false =>
 obtain⟨qb,qs,qc,qt⟩:=q;simp only at hs;subst hs;simp(disch:=apply zq;omega) only[go_sem,simprocAttr,↓wD,xx,He,uB,aQ,x1,c1]
end
theorem UX {p:List Sp}{r:List Rd}(hp:p.length<=100)(hr:r.length<=1500)(h1:∀i,i<p.length->C23 p i)(h2:∀i,i<r.length->RdOk p (rdt r i)):PK p r where
 s i hi:=(h1 i hi).1
 ok:=⟨hp,hr,fun i hi=>by have:=(h1 i hi).1.k;omega,fun i hi=>by have:=(h1 i hi).1.k;omega,fun i hi=>(h1 i hi).1.c,fun i j hij hj h=>(h1 j hj).2 i hij h,
  fun i hi=>⟨(h2 i hi).f.1,(h2 i hi).f.2,(h2 i hi).t.1,(h2 i hi).t.2,(h2 i hi).ne⟩,fun i hi=>⟨(h2 i hi).c.1,(h2 i hi).c.2,(h2 i hi).k.1,(h2 i hi).k.2⟩,fun i hi=>⟨(h2 i hi).a,(h2 i hi).z⟩⟩
set_option maxHeartbeats 1000000 in
theorem Ff (h:2<=n){q:PF}{p:List Sp}{r:List Rd}(hq:PFOk q p r)(hp:p.length<=100)(hr:r.length<=1500):∃e:Int,(e=0->PK p r)/\call gl tab n 44 [plV q p r] []=some (i64 e,[],[]):=by
 obtain⟨d,rfl⟩:=wE h;rw[au (fd:=Kr) rfl];have z:∀{e:Int} {P:Prop},e≠0->(e=0->P):=fun h h'=>absurd h' h
 rcases iy (C23 p) p.length with hA|⟨k,hk,hb,he⟩
 case inr =>
  obtain⟨e,hz,hf⟩:=TN (gl:=gl) (d:=d) hq hp hr hk he;obtain⟨st,hst,hg⟩:=ji hf;have hs2:=fun i (hi:i<k)=>HB (gl:=gl) (d:=d) hq hp hr (by omega) (hb i hi)
  simp only[L23,wq]at hs2 hst;refine⟨e,z hz,?_⟩;simp(disch:=apply zq;omega) only[go_sem,simprocAttr,↓wD,xx,Kr,m44,ah,aQ];rw[aE (S23 q p r) k (by unfold LF;omega),hst]
  . simp(disch:=apply zq;omega) only[go_sem,simprocAttr,↓wD,xx,hg]
  . simp(disch:=apply zq;omega) only[go_sem,simprocAttr,↓wD,xx,S23]
  . exact hs2
  . rw[hst];rfl
 have hs2:=fun i (hi:i<p.length)=>HB (gl:=gl) (d:=d) hq hp hr hi (hA i hi)
 simp only[L23,wq]at hs2;rcases iy (fun i=>RdOk p (rdt r i)) r.length with hB|⟨k,hk,hb,he⟩
 case inr =>
  obtain⟨st,hst,hg⟩:=ji (Of (gl:=gl) (d:=d) hq hp hr hk he);have hs3:=fun i (hi:i<k)=>DP (gl:=gl) (d:=d) hq hp hr (show i<r.length by omega) (hb i hi)
  simp only[He,wq]at hs3 hst;refine⟨400,z (by decide),?_⟩;simp(disch:=apply zq;omega) only[go_sem,simprocAttr,↓wD,xx,Kr,m44,ah,aQ];rw[aE (S23 q p r) p.length (by unfold LF;omega)]
  . simp(disch:=apply zq;omega) only[go_sem,simprocAttr,↓wD,xx,S23,ah];rw[aE (uB q p r) k (by unfold LF;omega),hst]
    . simp(disch:=apply zq;omega) only[go_sem,simprocAttr,↓wD,xx,hg]
    . simp(disch:=apply zq;omega) only[go_sem,simprocAttr,↓wD,xx,uB]
    . exact hs3
    . rw[hst];rfl
  . simp(disch:=apply zq;omega) only[go_sem,simprocAttr,↓wD,xx,S23]
  . exact hs2
  . simp(disch:=apply zq;omega) only[go_sem,simprocAttr,↓wD,xx,S23,ah]
 have hs3:=fun i (hi:i<r.length)=>DP (gl:=gl) (d:=d) hq hp hr hi (hB i hi)
 simp only[He,wq]at hs3;refine⟨0,fun _=>UX hp hr hA hB,?_⟩;simp(disch:=apply zq;omega) only[go_sem,simprocAttr,↓wD,xx,Kr,m44,ah,aQ];rw[aE (S23 q p r) p.length (by unfold LF;omega)]
 . simp(disch:=apply zq;omega) only[go_sem,simprocAttr,↓wD,xx,S23,ah];rw[aE (uB q p r) r.length (by unfold LF;omega)]
   . simp(disch:=apply zq;omega) only[go_sem,simprocAttr,↓wD,xx,uB,aQ]
   . simp(disch:=apply zq;omega) only[go_sem,simprocAttr,↓wD,xx,uB]
   . exact hs3
   . simp(disch:=apply zq;omega) only[go_sem,simprocAttr,↓wD,xx,uB,aQ]
 . simp(disch:=apply zq;omega) only[go_sem,simprocAttr,↓wD,xx,S23]
 . exact hs2
 . simp(disch:=apply zq;omega) only[go_sem,simprocAttr,↓wD,xx,S23,ah]
theorem SH (h:3<=n){q:PF}{p:List Sp}{r:List Rd}(hq:PFOk q p r)(hp:p.length<=9223372036854775807)(hr:r.length<=9223372036854775807):∃b:Bool,(b=true->p.length<=6/\r.length<=20/\PK p r)/\call gl tab n 15 [plV q p r] []=some (.bool b,[],[]):=by
 obtain⟨d,rfl⟩:=wE h;rw[au (fd:=Gy) rfl];by_cases h1:p.length<=6
 case neg=>exact⟨false,(fun h=>by cases h),by simp(disch:=apply zq;omega) only[go_sem,simprocAttr,↓wD,xx,Gy,m15,ah,aQ]⟩
 by_cases h2:r.length<=20
 case neg=>exact⟨false,(fun h=>by cases h),by simp(disch:=apply zq;omega) only[go_sem,simprocAttr,↓wD,xx,Gy,m15,ah,aQ]⟩
 obtain⟨e,he,c1⟩:=@Ff gl (d+2) (by omega) q p r hq (by omega) (by omega);by_cases h3:e=0
 . subst h3;exact⟨true,fun _=>⟨h1,h2,he rfl⟩,by simp(disch:=apply zq;omega) only[go_sem,simprocAttr,↓wD,xx,Gy,m15,ah,aQ,c1]⟩
 . have e1:(e==0)=false:=by rw[beq_eq_false_iff_ne];exact h3
   exact⟨false,(fun h=>by cases h),by simp(disch:=apply zq;omega) only[go_sem,simprocAttr,↓wD,xx,Gy,m15,ah,aQ,c1,e1]⟩
def dm (p:List Sp):Nat->Int
 | 0=>0
 | i+1=>if(spt p i).kd=1 then dm p i+(spt p i).cp else dm p i
theorem GN {p:List Sp}(h:∀i,i<p.length->0<=(spt p i).cp/\(spt p i).cp<=1073741824):∀i,i<=p.length->0<=dm p i/\dm p i<=(i:Int)*1073741824
 | 0,_=>by simp[dm]
 | i+1,hi=>by have:=GN h i (by omega);have:=h i (by omega);rw[dm];split<;>omega
noncomputable def L10:MC:=wq 0 m16
def S10 (q:PF)(p:List Sp)(r:List Rd)(i:Nat):St:=⟨[.set 4 (i64 (i:Int)),.set 3 (i64 (dm p i)),.set 1 (.ptr 1 [])],[(1,.fix sPl (plV q p r))]⟩
theorem Ra {d:Nat}{q:PF}{p:List Sp}{r:List Rd}(hq:PFOk q p r)(hp:p.length<=100)(h:∀i,i<p.length->0<=(spt p i).cp/\(spt p i).cp<=1073741824){i:Nat}(hi:i<p.length):aK [.slot 1,.slot 3,.slot 4,.key 1] (evC gl (call gl tab d) L10 (S10 q p r i))=some (S10 q p r (i+1)):=by
 have hs:q.s=sSp:=hq.s.resolve_left fun h=>by rw[h]at hi;simp at hi
 have x1:=da hi;have h1:=GN h i (by omega);have h2:=h i hi;obtain⟨qb,qs,qc,qt⟩:=q;simp only at hs;subst hs;by_cases e:(spt p i).kd=1
 . have e1:dm p (i+1)=dm p i+(spt p i).cp:=by rw[dm,if_pos e]
   simp(disch:=apply zq;omega) only[go_sem,simprocAttr,↓wD,xx,L10,S10,ah,x1,e1]
 . have e1:dm p (i+1)=dm p i:=by rw[dm,if_neg e]
   simp(disch:=apply zq;omega) only[go_sem,simprocAttr,↓wD,xx,L10,S10,ah,x1,e1]
theorem B5 (h:1<=n){q:PF}{p:List Sp}{r:List Rd}(hq:PFOk q p r)(hp:p.length<=100)(hc:∀i,i<p.length->0<=(spt p i).cp/\(spt p i).cp<=1073741824):call gl tab n 16 [plV q p r] []=some (i64 (dm p p.length),[],[]):=by
 obtain⟨d,rfl⟩:=wE h;have hs:=fun i hi=>@Ra gl d q p r hq hp hc i hi
 simp only[L10,wq]at hs;rw[au (fd:=TH) rfl];simp(disch:=apply zq;omega) only[go_sem,simprocAttr,↓wD,xx,TH,m16,ah];rw[aE (S10 q p r) p.length (by unfold LF;omega)]
 . simp(disch:=apply zq;omega) only[go_sem,simprocAttr,↓wD,xx,S10,ah]
 . simp(disch:=apply zq;omega) only[go_sem,simprocAttr,↓wD,xx,S10,dm]
 . exact hs
 . simp(disch:=apply zq;omega) only[go_sem,simprocAttr,↓wD,xx,S10,ah]
structure FW (p:List Sp)(r:List Rd):Prop where
 k:PK p r
 np:p.length<=6
 nr:r.length<=20
 d:dm p p.length<=40
 c:∀i,i<p.length->(spt p i).cp<=30
noncomputable def L4:MC:=wq 0 m4
def S4 (q:PF)(p:List Sp)(i:Nat):St:=⟨[.set 16 (i64 (i:Int)),.set 15 (i64 (p.length:Int)),.set 14 (.lst q.b q.s (ps p))],[]⟩
section
variable {d :Nat} {q:PF} {p:List Sp} {r:List Rd} (hq:PFOk q p r) (hp:p.length<=100)
include hq hp
theorem Pc {i:Nat}(hi:i<p.length)(hc:(spt p i).cp<=30):aK [.slot 14,.slot 15,.slot 16] (evC gl (call gl tab d) L4 (S4 q p i))=some (S4 q p (i+1)):=by
 have hs:q.s=sSp:=hq.s.resolve_left fun h=>by rw[h]at hi;simp at hi
 have x1:=da hi;obtain⟨qb,qs,qc,qt⟩:=q;simp only at hs;subst hs;simp(disch:=apply zq;omega) only[go_sem,simprocAttr,↓wD,xx,L4,S4,ah,x1]
theorem VV {i:Nat}(hi:i<p.length)(hc:¬(spt p i).cp<=30):sC 2 (evC gl (call gl tab d) L4 (S4 q p i))=some (.ret,.bool false):=by
 have hs:q.s=sSp:=hq.s.resolve_left fun h=>by rw[h]at hi;simp at hi
 have x1:=da hi;obtain⟨qb,qs,qc,qt⟩:=q;simp only at hs;subst hs;simp(disch:=apply zq;omega) only[go_sem,simprocAttr,↓wD,xx,L4,S4,ah,x1]
end
theorem NI (h:4<=n){q:PF}{p:List Sp}{r:List Rd}(hq:PFOk q p r)(hp:p.length<=9223372036854775807)(hr:r.length<=9223372036854775807):∃b:Bool,(b=true->FW p r)/\call gl tab n 4 [plV q p r] []=some (.bool b,[],[]):=by
 obtain⟨d,rfl⟩:=wE h;obtain⟨b,hb,c1⟩:=@SH gl (d+3) (by omega) q p r hq hp hr;rw[au (fd:=fd4) rfl]
 cases b with
 | false=>exact⟨false,(fun h=>by cases h),by simp(disch:=apply zq;omega) only[go_sem,simprocAttr,↓wD,xx,fd4,m4,ah,aQ,c1]⟩
 | true =>
 obtain⟨h1,h2,hk⟩:=hb rfl;have c2:=@B5 gl (d+3) (by omega) q p r hq (by omega) hk.ok.cp;by_cases h3:dm p p.length<=40
 case neg=>exact⟨false,(fun h=>by cases h),by simp(disch:=apply zq;omega) only[go_sem,simprocAttr,↓wD,xx,fd4,m4,ah,aQ,c1,c2]⟩
 rcases iy (fun i=>(spt p i).cp<=30) p.length with hA|⟨k,hkl,hb,he⟩
 . have hs:=fun i (hi:i<p.length)=>Pc (gl:=gl) (d:=d+3) hq (by omega) hi (hA i hi)
   simp only[L4,wq]at hs;refine⟨true,fun _=>⟨hk,h1,h2,h3,hA⟩,?_⟩;simp(disch:=apply zq;omega) only[go_sem,simprocAttr,↓wD,xx,fd4,m4,ah,aQ,c1,c2];rw[aE (S4 q p) p.length (by unfold LF;omega)]
   . simp(disch:=apply zq;omega) only[go_sem,simprocAttr,↓wD,xx,S4,ah]
   . simp(disch:=apply zq;omega) only[go_sem,simprocAttr,↓wD,xx,S4]
   . exact hs
   . simp(disch:=apply zq;omega) only[go_sem,simprocAttr,↓wD,xx,S4,ah]
 . obtain⟨st,hst,hg⟩:=ji (VV (gl:=gl) (d:=d+3) hq (by omega) hkl he);have hs:=fun i (hi:i<k)=>Pc (gl:=gl) (d:=d+3) hq (by omega) (show i<p.length by omega) (hb i hi)
   simp only[L4,wq]at hs hst;refine⟨false,(fun h=>by cases h),?_⟩;simp(disch:=apply zq;omega) only[go_sem,simprocAttr,↓wD,xx,fd4,m4,ah,aQ,c1,c2];rw[aE (S4 q p) k (by unfold LF;omega),hst]
   . simp(disch:=apply zq;omega) only[go_sem,simprocAttr,↓wD,xx,hg]
   . simp(disch:=apply zq;omega) only[go_sem,simprocAttr,↓wD,xx,S4]
   . exact hs
   . rw[hst];rfl
theorem H2 (h:1<=n){x:Sp}(hx:SpOk x):call gl tab n 53 [sV x] []=some (.bool true,[],[]):=by
 obtain⟨d,rfl⟩:=wE h;rw[au (fd:=Kq) rfl];have h1:=hx.c;rcases hx.k with ⟨k,h3,h4⟩|⟨k|k,h3,h4⟩
 . simp(disch:=apply zq;omega) only[go_sem,simprocAttr,↓wD,xx,Kq,m53,k]
 . simp(disch:=apply zq;omega) only[go_sem,simprocAttr,↓wD,xx,Kq,m53,k]
 . simp(disch:=apply zq;omega) only[go_sem,simprocAttr,↓wD,xx,Kq,m53,k]
def BR (p:List Sp):Nat->List (AV×AV×Nat)
 | 0=>[]
 | i+1=>BR p i++[(.agg [i64 (spt p i).kd,i64 (spt p i).nu,i64 0],.bool true,i)]
theorem xg {q:AV}{e:AV×AV×Nat}:∀{l:List (AV×AV×Nat)},bQ q l=some none->gD q e.1=some false->bQ q (l++[e])=some none
 | [],_,h=>by simp[bQ,h]
 | x::l,h,h2=>by
   rw[bQ]at h;rw[wB,bQ]
   cases hk:gD q x.1 with
   | none=>rw[hk]at h;cases h
   | some b =>
     rw[hk,wG]at h;rw[wG]
     cases b with
     | true=>simp at h
     | false =>
       simp only[Bool.false_eq_true,if_false]at h ⊢
       cases hf:bQ q l with
       | none=>rw[hf]at h;cases h
       | some r =>
         cases r with
         | none=>rw[xg hf h2];rfl
         | some z=>rw[hf]at h;cases h
theorem vq {p:List Sp}{x:Sp}:∀{i:Nat},(∀k,k<i->¬((spt p k).kd=x.kd/\(spt p k).nu=x.nu))->bQ (.agg [i64 x.kd,i64 x.nu,i64 0]) (BR p i)=some none
 | 0,_=>rfl
 | i+1,h=>by
   rw[BR];refine xg (vq fun k hk=>h k (by omega)) ?_;have:=h i (by omega);show eqI _ _=_;simp only[eqI,if_true,Option.map_some,Option.some.injEq];by_cases e1:x.kd=(spt p i).kd
   . by_cases e2:x.nu=(spt p i).nu
     . exact absurd ⟨e1.symm,e2.symm⟩ this
     . rw[show(x.nu==(spt p i).nu)=false from beq_eq_false_iff_ne.2 e2];simp
   . rw[show(x.kd==(spt p i).kd)=false from beq_eq_false_iff_ne.2 e1];simp
noncomputable def L17:MC:=wq 0 m20
noncomputable def Ux:MC:=wq 2 m20
def S17 (q:PF)(p:List Sp)(r:List Rd)(i:Nat):St:=⟨[.set 22 (i64 (i:Int)),.set 21 (i64 (p.length:Int)),.set 20 (.lst q.b q.s (ps p)),.set 3 (.mp 18),.set 1 (.ptr 1 [])],[(18,.mp (BR p i) i),(1,.fix sPl (plV q p r))]⟩
def DA (q:PF)(p:List Sp)(r:List Rd)(i:Nat):St:=⟨[.set 39 (i64 (i:Int)),.set 38 (i64 (r.length:Int)),.set 37 (.lst q.c q.t (ds r)),.set 1 (.ptr 1 [])],[(1,.fix sPl (plV q p r))]⟩
section
variable {d :Nat} {q:PF} {p:List Sp} {r:List Rd} (hq:PFOk q p r) (hk:PK p r)
include hq hk
theorem Q6 {i:Nat}(hi:i<p.length):aK K17 (evC gl (call gl tab (d+1)) L17 (S17 q p r i))=some (S17 q p r (i+1)):=by have hp:=hk.ok.pn;have hr:=hk.ok.rn;have hs:=kS hq hp hr hi;have x1:=da hi;have c1:=@H2 gl (d+1) (by omega) (spt p i) (hk.s i hi);have hf:=@vq p (spt p i) i (fun k hki=>hk.ok.tw k i hki hi);have hsn:BR p (i+1)=BR p i++[(.agg [i64 (spt p i).kd,i64 (spt p i).nu,i64 0],.bool true,i)]:=rfl;obtain⟨qb,qs,qc,qt⟩:=q;simp only at hs;subst hs;simp(disch:=apply zq;omega) only[go_sem,simprocAttr,↓wD,xx,L17,S17,ah,x1,c1,hf,hsn]
theorem MA {i:Nat}(hi:i<r.length):aK XC (evC gl (call gl tab (d+1)) Ux (DA q p r i))=some (DA q p r (i+1)):=by
 have hp:=hk.ok.pn;have hr:=hk.ok.rn;have hs:=Bd hq hp hr hi;have x1:=Be hi;obtain⟨f0,f1,t0,t1,ne⟩:=hk.ok.rf i hi;obtain⟨c0,c1,k0,k1⟩:=hk.ok.rc i hi;obtain⟨a,z⟩:=hk.ok.rk i hi;generalize rdt r i=x at *
 obtain⟨xf,xt,xc,xk⟩:=x;simp only at *
 obtain⟨j,rfl⟩:=wF f0;obtain⟨k,rfl⟩:=wF t0;have hs2:=kS hq hp hr (show j<p.length by omega);have x2:=da (show j<p.length by omega);have x3:=da (show k<p.length by omega);have e:((j:Int)==(k:Int))=false:=by rw[beq_eq_false_iff_ne];omega
 simp only[Int.toNat_natCast]at a z;obtain⟨qb,qs,qc,qt⟩:=q;simp only at hs hs2;subst hs hs2;have m1:∃m:Int,0<=m/\fL ka (i64 (j:Int)) [i64 (k:Int),i64 xc,i64 xk]=some (i64 m):=by
  refine⟨mi (mi (mi (j:Int) (k:Int)) xc) xk,?_,?_⟩
  . have h4:∀a b:Int,0<=a->0<=b->0<=mi a b:=fun a b ha hb=>by unfold mi;split<;>assumption
    exact h4 _ _ (h4 _ _ (h4 _ _ (by omega) (by omega)) c0) k0
  . simp only[fL,ka,wG,if_true];rfl
 have m2:∃m:Int,m<p.length/\fL mI (i64 (j:Int)) [i64 (k:Int)]=some (i64 m):=by refine⟨if(k:Int)>j then k else j,by split<;>omega,?_⟩;simp only[fL,mI,wG,if_true]
 obtain⟨m1,h1,e1⟩:=m1;obtain⟨m2,h2,e2⟩:=m2;simp(disch:=apply zq;omega) only[go_sem,simprocAttr,↓wD,xx,Ux,DA,ah,aQ,x1,x2,x3,e,e1,e2]
end
theorem vI (h:2<=n){q:PF}{p:List Sp}{r:List Rd}(hq:PFOk q p r)(hk:PK p r):call gl tab n 20 [plV q p r] []=some (i64 0,[],[]):=by
 obtain⟨d,rfl⟩:=wE h;have hp:=hk.ok.pn;have hr:=hk.ok.rn;have hs1:=fun i hi=>@Q6 gl d q p r hq hk i hi
 have hs2:=fun i hi=>@MA gl d q p r hq hk i hi
 simp only[L17,Ux,wq]at hs1 hs2;rw[au (fd:=TF) rfl];simp(disch:=apply zq;omega) only[go_sem,simprocAttr,↓wD,xx,TF,m20,ah,aQ];rw[aE (S17 q p r) p.length (by unfold LF;omega)]
 . simp(disch:=apply zq;omega) only[go_sem,simprocAttr,↓wD,xx,S17,ah,aQ];rw[aE (DA q p r) r.length (by unfold LF;omega)]
   . simp(disch:=apply zq;omega) only[go_sem,simprocAttr,↓wD,xx,DA,aQ]
   . simp(disch:=apply zq;omega) only[go_sem,simprocAttr,↓wD,xx,DA,aQ]
   . exact hs2
   . simp(disch:=apply zq;omega) only[go_sem,simprocAttr,↓wD,xx,DA,aQ]
 . simp(disch:=apply zq;omega) only[go_sem,simprocAttr,↓wD,xx,S17,BR]
 . exact hs1
 . simp(disch:=apply zq;omega) only[go_sem,simprocAttr,↓wD,xx,S17,ah]
end Go.Proofs.S51
