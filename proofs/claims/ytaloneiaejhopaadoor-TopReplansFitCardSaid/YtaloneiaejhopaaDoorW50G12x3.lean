/-
  Flows: Send. No condition.
-/
import Derived.Test.YtaloneiaejhopaaDoorW50G11x3
set_option linter.all false
namespace Go.Proofs.S50
open Go Go.Ev Go.Proofs Go.Fl
variable {gl :Gl} {n:Nat}
structure SR (g:Nt)(s to:Nat)(A:Int)(fl pr:List Int)(sent:Int)(cut:List Nat):Prop where
 si:SI g 1048576 s to A fl pr sent
 c:(sent=A/\cut=[])\/(sent<A/\∃out,DI g fl pr s out []/\nth out to=far/\cut=cutL out g.n)
abbrev fV (g:Nt)(fl pr:List Int)(sent:Int)(cut:List Nat):AV:=.agg [i64 sent,i64 (tot g.a fl g.a.length),.lst false .sc (ns fl),.lst false .sc (ns pr),lV .sc (us cut)]
structure E9 where
 fl:List Int
 pr:List Int
 sent:Int
theorem zff {out:List Int}{v:Nat}:∀{k:Nat},v∈cutL out k↔v<k/\nth out v<far
 | 0=>by simp[cutL]
 | k+1=>by
   rw[cutL]
   split
   . rename_i h
     rw[List.mem_append,zff,List.mem_singleton]
     constructor
     . rintro (⟨h1,h2⟩|rfl)
       . exact⟨by omega,h2⟩
       . exact⟨by omega,h⟩
     . rintro ⟨h1,h2⟩
       by_cases e:v=k
       . exact .inr e
       . exact .inl ⟨by omega,h2⟩
   . rename_i h
     rw[zff]
     constructor
     . rintro ⟨h1,h2⟩;exact⟨by omega,h2⟩
     . rintro ⟨h1,h2⟩
       by_cases e:v=k
       . rw[e]at h2;exact absurd h2 h
       . exact⟨by omega,h2⟩
set_option maxHeartbeats 4000000 in
theorem qb6 {g:Nt}{b:Bool}{sh:Sh}{s to:Nat}{A:Int}(hg:GOk g)(hsh:g.a=[]\/sh=yA4)(h0:g.a=[]->A=0)(hs:s<g.n)(ht:to<g.n)(hne:s≠to)(hA:0<=A/\A<=1099511627776)(ha:g.a.length<=2048)(hn:3*g.n+13<=n) :
  ∃fl pr sent cut,SR g s to A fl pr sent cut/\call gl tab n 18 [nV g b sh,i64 (s:Int),i64 (to:Int),i64 A] []=some (.tup [fV g fl pr sent cut,i64 0],[],[]):=by
 obtain⟨d,rfl⟩:∃d,n=d+1:=⟨n-1,by omega⟩
 have c46:=@z84 gl d g b sh hg hsh (by omega) (by omega) ha
 have c47:=@qaz gl d (by omega) g b sh s to A hs ht hne hA
 have hz:=z1s g.a.length 0
 have hl:g.a.length<=LIM:=by unfold LIM;omega
 have c48:=@z9d gl d g.n g.a.length b sh g.a (List.replicate g.a.length 0) (by omega) (by have:=hg.n;omega) (by omega) hsh hg.ok.f hg.ok.t hg.ok.ne
 have hsi0:=si_0 (s:=s) (to:=to) hg.ok (by decide) hA.1
 have ho:(adjs g.a g.a.length g.n).map (lV .sc)=outV g:=rfl
 rw[ho]at c48
 obtain⟨a,hia,hfin,hiter⟩:=zmo (f:=evC gl (call gl tab d) L18) (ks:=K18) (fun a:E9=>S18 g b sh s to A a.fl a.pr a.sent) (fun a=>SI g 1048576 s to A a.fl a.pr a.sent)
  (fun a=>a.sent=A\/(a.sent<A/\∃out,DI g a.fl a.pr s out []/\nth out to=far/\call gl tab d 49 [.ptr 100000 [],i64 (s:Int)] (nwH g b sh a.fl a.pr)=some (.sl 20000 [] 0 g.n,nwH g b sh a.fl a.pr,[.grow .sc (ns out)]))) (fun a=>(A-a.sent).toNat) (a0:=⟨List.replicate g.a.length 0,List.replicate g.n 0,0⟩)
  (by unfold LF;simp only;omega) hsi0
  (fun a hia=>by
    have hsa:=hia.sa
    by_cases hlt:a.sent<A
    . have hgn:g.a≠[]:=fun e=>by have:=h0 e;omega
      have hsh:=hsh.resolve_left hgn
      subst hsh
      obtain⟨out,hdi,c49⟩:=@zta gl d g b yA4 a.fl a.pr s to hg hia.fb hia.rn hia.pb hs (.inr rfl) (by omega)
      by_cases hf:nth out to=far
      . refine .inl ⟨.inr ⟨hlt,out,hdi,hf,c49⟩,?_⟩
        have x3:=zb2 (show to<out.length by rw[hdi.l];exact ht)
        rw[hf]at x3
        have hcn:cutL out g.n≠[]:=fun e=>by
         have:s∈cutL out g.n:=zff.2 ⟨hs,by rw[hdi.sz];unfold far;decide⟩
         rw[e]at this;cases this
        have c50:=@zmx gl d g b yA4 a.fl a.pr out a.sent (by omega) (.inr rfl) hg hia.fb hia.pb.l hdi.l hcn
        have e1:(far==4611686018427387904)=true:=by decide
        simp only[List.cons_append,List.nil_append]at c50
        obtain⟨fl,pr,sent⟩:=a
        simp only at hlt c49 c50 ⊢
        simp(disch:=apply zq;omega) only[go_sem,simprocAttr,↓Nat.reduceEqDiff,xx,L18,m18,S18,f18,h18,hlt,c49,zbp,x3,e1,zab,hdi.l,c50,frV]
      . obtain⟨fl',pr',sent',h1,h2,h3⟩:=@qgn gl d g b s to A a.fl a.pr a.sent hg hgn hs ht hA.2 (by omega) hia hlt out hdi hf c49
        exact .inr ⟨⟨fl',pr',sent'⟩,h1,by simp only;omega,h3⟩
    . refine .inl ⟨.inl (by omega),?_⟩
      obtain⟨fl,pr,sent⟩:=a
      simp only at hlt ⊢
      simp(disch:=apply zq;omega) only[go_sem,simprocAttr,↓Nat.reduceEqDiff,xx,L18,m18,S18,f18,h18])
 obtain⟨fl,pr,sent⟩:=a
 simp only at hfin hiter hia
 simp only[L18,m18]at hiter
 have hft:=zbp fl
 have hpt:=zbp pr
 have t1:=zek hia.fb.l
 have t2:=zek hia.pb.l
 have hfl:=hia.fb.l
 have hpl:=hia.pb.l
 rcases hfin with hfin|⟨hlt,out,hdi,hf,c49⟩
 . refine⟨fl,pr,sent,[],⟨hia,.inl ⟨hfin,rfl⟩⟩,?_⟩
   subst hfin
   have c50:=@zuy gl d g b sh fl pr sent (by omega) hsh hg hia.fb hia.pb.l
   have e0:lV .sc (us [])= .lst true .sc []:=rfl
   rw[zai (fd:=fd18) rfl]
   simp(disch:=apply zq;omega) only[go_sem,simprocAttr,↓Nat.reduceEqDiff,xx,fd18,m18,c46,c47,zah,hl,hz,c48,zbp,e0]
   rw[hiter]
   . simp(disch:=apply zq;omega) only[go_sem,simprocAttr,↓Nat.reduceEqDiff,xx,S18,f18,h18,c50,frV,zab,hfl,hpl,t1,t2]
     rfl
   . simp(disch:=apply zq;omega) only[go_sem,simprocAttr,↓Nat.reduceEqDiff,xx,S18,f18,h18]
 . refine⟨fl,pr,sent,cutL out g.n,⟨hia,.inr ⟨hlt,out,hdi,hf,rfl⟩⟩,?_⟩
   have x3:=zb2 (show to<out.length by rw[hdi.l];exact ht)
   rw[hf]at x3
   have hcn:cutL out g.n≠[]:=fun e=>by
    have:s∈cutL out g.n:=zff.2 ⟨hs,by rw[hdi.sz];unfold far;decide⟩
    rw[e]at this;cases this
   have c50:=@zmx gl d g b sh fl pr out sent (by omega) hsh hg hia.fb hia.pb.l hdi.l hcn
   have e1:(far==4611686018427387904)=true:=by decide
   simp only[List.cons_append,List.nil_append]at c50
   have e0:lV .sc (us (cutL out g.n))= .lst false .sc (us (cutL out g.n)):=by
    unfold lV;rw[zjr,if_neg]
    rw[List.isEmpty_iff];exact hcn
   have ul:=zao (cutL out g.n)
   have hct:List.take (cutL out g.n).length (us (cutL out g.n))=us (cutL out g.n):=List.take_of_length_le (by omega)
   rw[zai (fd:=fd18) rfl]
   simp(disch:=apply zq;omega) only[go_sem,simprocAttr,↓Nat.reduceEqDiff,xx,fd18,m18,c46,c47,zah,hl,hz,c48,zbp,e0]
   rw[hiter]
   . simp(disch:=apply zq;omega) only[go_sem,simprocAttr,↓Nat.reduceEqDiff,xx,S18,f18,h18,hlt,c49,zbp,x3,e1,zab,hdi.l,c50,frV,hfl,hpl,t1,t2,ul,hct]
     unfold fV
     rw[e0]
   . simp(disch:=apply zq;omega) only[go_sem,simprocAttr,↓Nat.reduceEqDiff,xx,S18,f18,h18]
end Go.Proofs.S50
namespace Go.Proofs.S50
open Go Go.Ev Go.Proofs Go.Fl
variable {gl :Gl} {n:Nat}
abbrev sV (x:Sp):AV:=.agg [i64 x.kd,i64 x.nu,i64 x.cp]
abbrev dV (x:Rd):AV:=.agg [i64 x.f,i64 x.t,i64 x.c,i64 x.k]
def ps (l:List Sp):List AV:=l.map sV
def ds (l:List Rd):List AV:=l.map dV
theorem zac (l:List Sp):(ps l).length=l.length:=by simp[ps]
theorem zaq (l:List Rd):(ds l).length=l.length:=by simp[ds]
theorem zen {l:List Sp}{i:Nat}(h:i<l.length):(ps l)[i]? =some (.agg [i64 (spt l i).kd,i64 (spt l i).nu,i64 (spt l i).cp]):=by simp[ps,spt,h]
theorem z4j {l:List Rd}{i:Nat}(h:i<l.length):(ds l)[i]? =some (.agg [i64 (rdt l i).f,i64 (rdt l i).t,i64 (rdt l i).c,i64 (rdt l i).k]):=by simp[ds,rdt,h]
structure PF where
 b:Bool
 s:Sh
 c:Bool
 t:Sh
abbrev sSp :Sh:=.st [.sc,.sc,.sc]
abbrev sRd :Sh:=.st [.sc,.sc,.sc,.sc]
structure PFOk (q:PF)(p:List Sp)(r:List Rd):Prop where
 s:p=[]\/q.s=sSp
 t:r=[]\/q.t=sRd
abbrev plV (q:PF)(p:List Sp)(r:List Rd):AV:=.agg [.lst q.b q.s (ps p),.lst q.c q.t (ds r)]
structure SpOk (x:Sp):Prop where
 c:0<=x.cp/\x.cp<=1073741824
 k:(x.kd=1/\0<=x.nu/\x.nu<64)\/((x.kd=2\/x.kd=3)/\1<=x.nu/\x.nu<=1073741824)
theorem zrr (h:1<=n)(x:Sp):∃b:Bool,(b=true↔SpOk x)/\call gl tab n 53 [sV x] []=some (.bool b,[],[]):=by
 obtain⟨d,rfl⟩:=Nat.exists_eq_add_of_le' h
 rw[zai (fd:=fd53) rfl]
 by_cases h1:0<=x.cp
 case neg=>exact⟨false,⟨(fun h=>by cases h),fun h=>absurd h.c.1 h1⟩,by simp(disch:=apply zq;omega) only[go_sem,simprocAttr,↓Nat.reduceEqDiff,xx,fd53,m53]⟩
 by_cases h2:x.cp<=1073741824
 case neg=>exact⟨false,⟨(fun h=>by cases h),fun h=>absurd h.c.2 h2⟩,by simp(disch:=apply zq;omega) only[go_sem,simprocAttr,↓Nat.reduceEqDiff,xx,fd53,m53]⟩
 by_cases k1:x.kd=1
 . by_cases h3:0<=x.nu
   case neg=>exact⟨false,⟨(fun h=>by cases h),fun h=>by have:=h.k;omega⟩,by simp(disch:=apply zq;omega) only[go_sem,simprocAttr,↓Nat.reduceEqDiff,xx,fd53,m53]⟩
   by_cases h4:x.nu<64
   case neg=>exact⟨false,⟨(fun h=>by cases h),fun h=>by have:=h.k;omega⟩,by simp(disch:=apply zq;omega) only[go_sem,simprocAttr,↓Nat.reduceEqDiff,xx,fd53,m53]⟩
   exact⟨true,⟨fun _=>⟨⟨h1,h2⟩,.inl ⟨k1,h3,h4⟩⟩,fun _=>rfl⟩,by simp(disch:=apply zq;omega) only[go_sem,simprocAttr,↓Nat.reduceEqDiff,xx,fd53,m53]⟩
 by_cases k2:x.kd=2
 . by_cases h3:1<=x.nu
   case neg=>exact⟨false,⟨(fun h=>by cases h),fun h=>by have:=h.k;omega⟩,by simp(disch:=apply zq;omega) only[go_sem,simprocAttr,↓Nat.reduceEqDiff,xx,fd53,m53]⟩
   by_cases h4:x.nu<=1073741824
   case neg=>exact⟨false,⟨(fun h=>by cases h),fun h=>by have:=h.k;omega⟩,by simp(disch:=apply zq;omega) only[go_sem,simprocAttr,↓Nat.reduceEqDiff,xx,fd53,m53]⟩
   exact⟨true,⟨fun _=>⟨⟨h1,h2⟩,.inr ⟨.inl k2,h3,h4⟩⟩,fun _=>rfl⟩,by simp(disch:=apply zq;omega) only[go_sem,simprocAttr,↓Nat.reduceEqDiff,xx,fd53,m53]⟩
 by_cases k3:x.kd=3
 . by_cases h3:1<=x.nu
   case neg=>exact⟨false,⟨(fun h=>by cases h),fun h=>by have:=h.k;omega⟩,by simp(disch:=apply zq;omega) only[go_sem,simprocAttr,↓Nat.reduceEqDiff,xx,fd53,m53]⟩
   by_cases h4:x.nu<=1073741824
   case neg=>exact⟨false,⟨(fun h=>by cases h),fun h=>by have:=h.k;omega⟩,by simp(disch:=apply zq;omega) only[go_sem,simprocAttr,↓Nat.reduceEqDiff,xx,fd53,m53]⟩
   exact⟨true,⟨fun _=>⟨⟨h1,h2⟩,.inr ⟨.inr k3,h3,h4⟩⟩,fun _=>rfl⟩,by simp(disch:=apply zq;omega) only[go_sem,simprocAttr,↓Nat.reduceEqDiff,xx,fd53,m53]⟩
 exact⟨false,⟨(fun h=>by cases h),fun h=>by have:=h.k;omega⟩,by simp(disch:=apply zq;omega) only[go_sem,simprocAttr,↓Nat.reduceEqDiff,xx,fd53,m53]⟩
structure RdOk (p:List Sp)(x:Rd):Prop where
 f:0<=x.f/\x.f<p.length
 t:0<=x.t/\x.t<p.length
 ne:x.f≠x.t
 c:0<=x.c/\x.c<=1073741824
 k:0<=x.k/\x.k<=1048576
 a:(spt p x.f.toNat).kd≠3
 z:(spt p x.t.toNat).kd≠1
theorem zrq (h:1<=n){q:PF}{p:List Sp}{r:List Rd}(hq:PFOk q p r)(hp:p.length<=1000)(x:Rd):∃b:Bool,(b=true↔RdOk p x)/\call gl tab n 54 [plV q p r,dV x] []=some (.bool b,[],[]):=by
 obtain⟨d,rfl⟩:=Nat.exists_eq_add_of_le' h
 rw[zai (fd:=fd54) rfl]
 by_cases f1:0<=x.f
 case neg=>exact⟨false,⟨(fun h=>by cases h),fun h=>absurd h.f.1 f1⟩,by simp(disch:=apply zq;omega) only[go_sem,simprocAttr,↓Nat.reduceEqDiff,xx,fd54,m54,zac]⟩
 by_cases f2:x.f<p.length
 case neg=>exact⟨false,⟨(fun h=>by cases h),fun h=>absurd h.f.2 f2⟩,by simp(disch:=apply zq;omega) only[go_sem,simprocAttr,↓Nat.reduceEqDiff,xx,fd54,m54,zac]⟩
 by_cases t1:0<=x.t
 case neg=>exact⟨false,⟨(fun h=>by cases h),fun h=>absurd h.t.1 t1⟩,by simp(disch:=apply zq;omega) only[go_sem,simprocAttr,↓Nat.reduceEqDiff,xx,fd54,m54,zac]⟩
 by_cases t2:x.t<p.length
 case neg=>exact⟨false,⟨(fun h=>by cases h),fun h=>absurd h.t.2 t2⟩,by simp(disch:=apply zq;omega) only[go_sem,simprocAttr,↓Nat.reduceEqDiff,xx,fd54,m54,zac]⟩
 by_cases ne:x.f=x.t
 . have e:(x.f==x.t)=true:=by rw[beq_iff_eq];exact ne
   exact⟨false,⟨(fun h=>by cases h),fun h=>absurd ne h.ne⟩,by simp(disch:=apply zq;omega) only[go_sem,simprocAttr,↓Nat.reduceEqDiff,xx,fd54,m54,zac,e]⟩
 have e:(x.f==x.t)=false:=by rw[beq_eq_false_iff_ne];exact ne
 by_cases c1:0<=x.c
 case neg=>exact⟨false,⟨(fun h=>by cases h),fun h=>absurd h.c.1 c1⟩,by simp(disch:=apply zq;omega) only[go_sem,simprocAttr,↓Nat.reduceEqDiff,xx,fd54,m54,zac,e]⟩
 by_cases c2:x.c<=1073741824
 case neg=>exact⟨false,⟨(fun h=>by cases h),fun h=>absurd h.c.2 c2⟩,by simp(disch:=apply zq;omega) only[go_sem,simprocAttr,↓Nat.reduceEqDiff,xx,fd54,m54,zac,e]⟩
 by_cases k1:0<=x.k
 case neg=>exact⟨false,⟨(fun h=>by cases h),fun h=>absurd h.k.1 k1⟩,by simp(disch:=apply zq;omega) only[go_sem,simprocAttr,↓Nat.reduceEqDiff,xx,fd54,m54,zac,e]⟩
 by_cases k2:x.k<=1048576
 case neg=>exact⟨false,⟨(fun h=>by cases h),fun h=>absurd h.k.2 k2⟩,by simp(disch:=apply zq;omega) only[go_sem,simprocAttr,↓Nat.reduceEqDiff,xx,fd54,m54,zac,e]⟩
 have hne:p≠[]:=fun h0=>by rw[h0]at f2;simp at f2;omega
 have hs:q.s=sSp:=hq.s.resolve_left hne
 obtain⟨qb,qs,qc,qt⟩:=q
 simp only at hs
 subst hs
 obtain⟨xf,xt,xc,xk⟩:=x
 simp only at f1 f2 t1 t2 e ne c1 c2 k1 k2
 obtain⟨i,rfl⟩:=Int.eq_ofNat_of_zero_le f1
 obtain⟨j,rfl⟩:=Int.eq_ofNat_of_zero_le t1
 have x1:=zen (show i<p.length by omega)
 have x2:=zen (show j<p.length by omega)
 by_cases a:(spt p i).kd=3
 . exact⟨false,⟨(fun h=>by cases h),fun h=>absurd a (by simpa using h.a)⟩,by simp(disch:=apply zq;omega) only[go_sem,simprocAttr,↓Nat.reduceEqDiff,xx,fd54,m54,zac,e,x1,x2]⟩
 by_cases z:(spt p j).kd=1
 . exact⟨false,⟨(fun h=>by cases h),fun h=>absurd z (by simpa using h.z)⟩,by simp(disch:=apply zq;omega) only[go_sem,simprocAttr,↓Nat.reduceEqDiff,xx,fd54,m54,zac,e,x1,x2]⟩
 exact⟨true,⟨fun _=>⟨⟨f1,f2⟩,⟨t1,t2⟩,ne,⟨c1,c2⟩,⟨k1,k2⟩,by simpa using a,by simpa using z⟩,fun _=>rfl⟩,by simp(disch:=apply zq;omega) only[go_sem,simprocAttr,↓Nat.reduceEqDiff,xx,fd54,m54,zac,e,x1,x2]⟩
end Go.Proofs.S50
