/-
  Chapter 3: checking the proof of an element: the climb. No condition.
-/
import Derived.Test.YtcddalfeicoedaaGreatDoorW44G13x3
set_option linter.all false
open List renaming length_pos_iff->wA,dropLast_eq_take->wB,length_dropLast->wC,length_take->wD
open Nat renaming add_le_add->wE,exists_eq_add_of_le'->wF,shiftRight_eq_div_pow->wG,and_le_right->wH,le_trans->wI,div_add_mod->wJ,mod_eq_of_lt->wK
open BitVec renaming toNat_and->wL,toNat_ushiftRight->wM,toNat_add->wN,toNat_ofNat->wO
namespace Go.Proofs.S44.M
open Go Go.Ev Go.Proofs Go.Mk
open Go.Proofs.S44.H (GlK GlR)
variable {gl :Gl} {n:Nat}
abbrev sP :Sh:=.st [.sc,.sc]
abbrev PS (f:Bool)(sh:Sh)(p:List Dg)(s:Bool):OB:=.fix sP (.agg [.lst f sh (dgL p),.bool s])
theorem zkc (p:List Dg):List.take (p.length-1) (dgL p)=dgL p.dropLast:=by rw[zdw,wB]
theorem zh0 {p:List Dg}(z:Dg)(h:p≠[]):dgA p (p.length-1)=p.getLastD z:=by
 have hp:=wA.2 h
 rw[dgA,List.getD_eq_getElem?_getD,List.getElem?_eq_getElem (by omega),Option.getD_some,List.getLastD_eq_getLast?,List.getLast?_eq_some_getLast h,Option.getD_some,List.getLast_eq_getElem]
theorem z46 (h:1<=n){f:Bool}{sh:Sh}{s:Bool}:call gl tab n 121 [.ptr 100000 []] [(100000,PS f sh [] s)]=some (bAV z16,[(100000,PS f sh [] true)],[]):=by
 obtain⟨d,rfl⟩:=wF h
 show _=some (AV.agg (zac z16),_,_)
 rw[<-qde]
 rw[za7 (fd:=zxz) rfl]
 simp(disch:=apply zq;omega) only[go_sem,simprocAttr,↓Nat.reduceEqDiff,xx,zxz,m121,↓out16_eq,H.out16_len,H.out16_all,H.out16_pl,zea]
 rfl
theorem z0t (h:1<=n){p:List Dg}(hp:p≠[])(hl:p.length<=1000000)(ha:All16 p){f:Bool}{s:Bool} :
  call gl tab n 121 [.ptr 100000 []] [(100000,PS f sB p s)]=some (bAV (p.getLastD z16),[(100000,PS true sB p.dropLast s)],[]):=by
 obtain⟨d,rfl⟩:=wF h
 have h1:=wA.2 hp
 have hL:=dgL_length p
 have hD:=zkc p
 have hA:=dgL_at (l:=p) (i:=p.length-1) (by omega)
 have q1:=ha.at (i:=p.length-1) (by omega)
 rw[zh0 z16 hp]at hA q1
 have q2:=H.bytes_all (p.getLastD z16)
 generalize p.getLastD z16=r at *
 have e1:((p.length:Int)-1)=((p.length-1:Nat):Int):=by omega
 rw[za7 (fd:=zxz) rfl]
 simp(implicitDefEqProofs:=false) (disch:=apply zq;omega) only[go_sem,simprocAttr,↓Nat.reduceEqDiff,xx,zxz,m121,↓out16_eq,H.out16_len,H.out16_all,H.out16_pl,hL,hD,hA,q1,q2,e1,zcb]
theorem z2u {z leaf:Dg}(h:leaf.length=16){i N:Nat}{p:List Dg}:(cl nd z leaf i N p).length=16:=by
 by_cases h2:2<=N
 . by_cases hi:i<spl N
   . rw[qgs h2 hi];exact zfm _ _
   . rw[qgt h2 hi];exact zfm _ _
 . rw[z2t (by omega)];exact h
theorem zj8 {p:List Dg}(ha:All16 p):(p.getLastD z16).length=16:=by
 by_cases h:p=[]
 . subst h;rfl
 . rw[<-zh0 z16 h];exact ha.at (by have:=wA.2 h;omega)
theorem All16.dropLast {p:List Dg}(h:All16 p):All16 p.dropLast:=by rw[wB];exact h.take _
def lft (p:List Dg)(k:Nat):List Dg:=p.take (p.length-k)
def shr (p:List Dg)(s:Bool)(k:Nat):Bool:=s||decide (p.length<k)
theorem zu1 (p:List Dg):lft p 0=p:=by simp[lft]
theorem zku (p:List Dg)(s:Bool):shr p s 0=s:=by simp[shr]
theorem z40 (p:List Dg)(k:Nat):lft p (k+1)=lft p.dropLast k:=by
 rw[lft,lft,wB,List.take_take,wD]
 congr 1;omega
theorem zos {p:List Dg}(h:p≠[])(s:Bool)(k:Nat):shr p s (k+1)=shr p.dropLast s k:=by
 have:=wA.2 h
 simp only[shr,wC]
 congr 1
 exact decide_eq_decide.2 (by omega)
abbrev CH (leaf:Dg)(f:Bool)(sh:Sh)(p:List Dg)(s:Bool):Hp :=
 [(100000,.fix (.ar 16 .sc) (bAV leaf)),(100001,.fix .sc (.ptr 100002 [])),(100002,PS f sh p s),(100003,.fix .sc (.fn 120 [.ptr 100000 [],.ptr 100001 [],.ptr 100003 []]))]
theorem zr3 (h:1<=n){leaf:Dg}(hf:leaf.length=16){i N:Nat}(hN:N=1){f:Bool}{sh:Sh}{p:List Dg}{s:Bool} :
  call gl tab n 120 [i64 i,i64 N,.ptr 100000 [],.ptr 100001 [],.ptr 100003 []] (CH leaf f sh p s)=some (bAV leaf,CH leaf f sh p s,[]):=by
 obtain⟨d,rfl⟩:=wF h
 have q2:=H.bytes_all leaf
 subst hN
 rw[za7 (fd:=zry) rfl]
 simp(disch:=apply zq;omega) only[go_sem,simprocAttr,↓Nat.reduceEqDiff,xx,zry,m120,↓out16_eq,H.out16_len,H.out16_all,H.out16_pl,hf,q2]
section
variable [Nonempty (GlK gl)]
set_option maxHeartbeats 1000000 in
theorem z7i :∀(c:Nat) {n:Nat} {leaf:Dg} {i N:Nat} {f:Bool} {sh:Sh} {p:List Dg} {s:Bool},leaf.length=16->N<=2^c->1<=N->i<N->c<=60->9+c<=n->All16 p->p.length<=1000000->Sd p sh sB ->
  ∃f',call gl tab n 120 [i64 i,i64 N,.ptr 100000 [],.ptr 100001 [],.ptr 100003 []] (CH leaf f sh p s)=some (bAV (cl nd z16 leaf i N p),CH leaf f' sh (lft p (dep i N)) (shr p s (dep i N)),[]):=by
 intro c
 induction c with
 | zero =>
   intro n leaf i N f sh p s hf hN h1 hi hc h ha hl hs
   have hN1:N=1:=by have:(2:Nat)^0=1:=rfl;omega
   rw[z2t (by omega),dep_one (by omega),zu1,zku]
   exact⟨f,zr3 (by omega) hf hN1⟩
 | succ c ih =>
   intro n leaf i N f sh p s hf hN h1 hi hc h ha hl hs
   by_cases hN1:N=1
   . rw[z2t (by omega),dep_one (by omega),zu1,zku]
     exact⟨f,zr3 (by omega) hf hN1⟩
   obtain⟨d,rfl⟩:∃d,n=d+1:=⟨n-1,by omega⟩
   have h2:2<=N:=by omega
   have hk:=zfi h2
   have hp:=ze7 N
   have hle:=qd8 h2 hN
   have hge:=@z7y N
   have h60:2^(c+1)<=2^60:=Nat.pow_le_pow_right (by omega) (by omega)
   have hN60:N<=1152921504606846976:=by
     have:(2:Nat)^60=1152921504606846976:=by decide
     omega
   have k:=@zoq gl d (by omega) N h2 (by omega)
   have q2:=H.bytes_all leaf
   have key:∃f1,(call gl tab d 121 [.ptr 100000 []] [(100000,PS f sh p s)]=some (bAV (p.getLastD z16),[(100000,PS f1 sh p.dropLast (shr p s 1))],[])):=by
    by_cases hp0:p=[]
    . subst hp0
      refine⟨f,?_⟩
      rw[show shr [] s 1=true by simp[shr]]
      exact z46 (by omega)
    . obtain rfl:sh=sB:=by rcases hs with hs|hs;exact absurd hs hp0;exact hs
      refine⟨true,?_⟩
      rw[show shr p s 1=s from by rw[zos hp0,zku]]
      exact z0t (by omega) hp0 hl ha
   obtain⟨f1,key⟩:=key
   have hs':Sd p.dropLast sh sB:=by rcases hs with hs|hs;exact Or.inl (by rw[hs];rfl);exact Or.inr hs
   have e1:∀k,lft p.dropLast k=lft p (k+1):=fun k=>(z40 p k).symm
   have e2:∀k,shr p.dropLast (shr p s 1) k=shr p s (k+1):=fun k=>by
    by_cases hp0:p=[]
    . subst hp0;simp[shr]
    . rw[zos hp0 s k,zos hp0,zku]
   have g1:=zj8 ha
   have g2:=H.bytes_all (p.getLastD z16)
   by_cases hlo:i<spl N
   . obtain⟨f2,a⟩:=@ih d leaf i (spl N) f1 sh p.dropLast (shr p s 1) hf hle (by omega) hlo (by omega) (by omega) ha.dropLast (by rw[wC];omega) hs'
     rw[e1,e2,<-qgh h2 hlo]at a
     have c1:=@z2u z16 leaf hf i (spl N) p.dropLast
     have e:=@zl2 gl d _ (by omega) _ _ c1 g1
     have e3:=zfm (cl nd z16 leaf i (spl N) p.dropLast) (p.getLastD z16)
     have e4:=H.bytes_all (nd (cl nd z16 leaf i (spl N) p.dropLast) (p.getLastD z16))
     rw[qgs h2 hlo]
     refine⟨f2,?_⟩
     generalize nd (cl nd z16 leaf i (spl N) p.dropLast) (p.getLastD z16)=q at *
     generalize cl nd z16 leaf i (spl N) p.dropLast=qa at *
     generalize p.getLastD z16=r at *
     generalize spl N=z at *
     rw[za7 (fd:=zry) rfl]
     simp(implicitDefEqProofs:=false) (disch:=apply zq;omega) only[go_sem,simprocAttr,↓Nat.reduceEqDiff,xx,zry,m120,↓out16_eq,H.out16_len,H.out16_all,H.out16_pl,k,key,a,e,e3,e4,g1,g2,q2,hf]
   . have ei:(i:Int)-(spl N:Int)=((i-spl N:Nat):Int):=by omega
     have eN:(N:Int)-(spl N:Int)=((N-spl N:Nat):Int):=by omega
     obtain⟨f2,a⟩:=@ih d leaf (i-spl N) (N-spl N) f1 sh p.dropLast (shr p s 1) hf (by omega) (by omega) (by omega) (by omega) (by omega) ha.dropLast (by rw[wC];omega) hs'
     rw[e1,e2,<-qgi h2 hlo]at a
     have c1:=@z2u z16 leaf hf (i-spl N) (N-spl N) p.dropLast
     have e:=@zl2 gl d _ (by omega) _ _ g1 c1
     have e3:=zfm (p.getLastD z16) (cl nd z16 leaf (i-spl N) (N-spl N) p.dropLast)
     have e4:=H.bytes_all (nd (p.getLastD z16) (cl nd z16 leaf (i-spl N) (N-spl N) p.dropLast))
     rw[qgt h2 hlo]
     refine⟨f2,?_⟩
     generalize nd (p.getLastD z16) (cl nd z16 leaf (i-spl N) (N-spl N) p.dropLast)=q at *
     generalize cl nd z16 leaf (i-spl N) (N-spl N) p.dropLast=qa at *
     generalize p.getLastD z16=r at *
     generalize spl N=z at *
     rw[za7 (fd:=zry) rfl]
     simp(implicitDefEqProofs:=false) (disch:=apply zq;omega) only[go_sem,simprocAttr,↓Nat.reduceEqDiff,xx,zry,m120,↓out16_eq,H.out16_len,H.out16_all,H.out16_pl,k,key,a,e,e3,e4,g1,g2,q2,hf,ei,eN]
end
end Go.Proofs.S44.M
namespace Go.Proofs.S44.M
open Go Go.Ev Go.Proofs Go.Mk
open Go.Proofs.S44.H (GlK GlR)
variable {gl :Gl} {n:Nat}
theorem d25A :dd71.mA=[zs6,zs5,qa5]:=rfl
theorem d25B :dd71.mB=m71B:=rfl
theorem zn5 :dd71.fos=[(.o 31 (.l 11))]:=rfl
theorem zjs :dd71.dargs=[(.t 31),(.t 10)]:=rfl
theorem zx9 :dd71.fS=119:=rfl
theorem ztu :dd71.fd=fd119:=rfl
theorem zhk :dd71.slots=[1,2,5,9,10,11]:=rfl
theorem d25d :dd71.d=41000:=rfl
theorem zya :dd71.dd=51000:=rfl
theorem zn4 :dd71.res=[.cell 10 false 1]:=rfl
theorem checkI_bad (h:2<=n){leaf root:Dg}{i N:Int}{f:Bool}{sh:Sh}{p:List Dg}(hb:N<1\/N>1099511627776\/i<0\/i>=N)(hf:leaf.length=16)(hr:root.length=16) :
  call gl tab n 71 [bAV leaf,i64 i,i64 N,.lst f sh (dgL p),bAV root] []=some (.bool false,[],[]):=by
 obtain⟨d,rfl⟩:=wF h
 have l1:=b16t hf
 have l2:=H.bytes_all leaf
 have r1:=b16t hr
 have r2:=H.bytes_all root
 rw[z2z (fd:=fd71) rfl]
 by_cases h1:N<1
 . simp(disch:=apply zq;omega) only[go_sem,simprocAttr,↓Nat.reduceEqDiff,xx,d25A,d25B,zn5,zjs,zx9,ztu,zhk,d25d,zya,zn4,zs6,zs5,↓out16_eq,H.out16_len,H.out16_all,H.out16_pl,hf,hr,l1,l2,r1,r2]
 by_cases h2:N>1099511627776
 . simp(disch:=apply zq;omega) only[go_sem,simprocAttr,↓Nat.reduceEqDiff,xx,d25A,d25B,zn5,zjs,zx9,ztu,zhk,d25d,zya,zn4,zs6,zs5,↓out16_eq,H.out16_len,H.out16_all,H.out16_pl,hf,hr,l1,l2,r1,r2]
 by_cases h3:i<0
 . simp(disch:=apply zq;omega) only[go_sem,simprocAttr,↓Nat.reduceEqDiff,xx,d25A,d25B,zn5,zjs,zx9,ztu,zhk,d25d,zya,zn4,zs6,zs5,↓out16_eq,H.out16_len,H.out16_all,H.out16_pl,hf,hr,l1,l2,r1,r2]
 have h4:i>=N:=by omega
 simp(disch:=apply zq;omega) only[go_sem,simprocAttr,↓Nat.reduceEqDiff,xx,d25A,d25B,zn5,zjs,zx9,ztu,zhk,d25d,zya,zn4,zs6,zs5,↓out16_eq,H.out16_len,H.out16_all,H.out16_pl,hf,hr,l1,l2,r1,r2]
theorem zy8 {D:DfD}(hD:D.fd=fd119){cl:Cl}{k:Nat}{f:Bool}{sh:Sh}{p:List Dg}{s b:Bool} :
  dfS D gl cl k [.ptr 100000 [],.ptr 100001 []] [(100000,PS f sh p s),(100001,.fix .sc (.bool b))]=some (.tup [],[(100000,PS f sh p s),(100001,.fix .sc (.bool (b&& !s&&decide (p.length=0))))],[]):=by
 have hL:=dgL_length p
 rw[qgf,hD,if_pos (show(zjm fd119.pk&&mcLt fd119.body)=true from rfl)]
 cases b with
 | false=>simp(disch:=apply zq;omega) only[go_sem,simprocAttr,↓Nat.reduceEqDiff,xx,fd119,m119,hL]
 | true =>
   cases s with
   | true=>simp(disch:=apply zq;omega) only[go_sem,simprocAttr,↓Nat.reduceEqDiff,xx,fd119,m119,hL]
   | false =>
     by_cases h0:p.length=0
     . simp(disch:=apply zq;omega) only[go_sem,simprocAttr,↓Nat.reduceEqDiff,xx,fd119,m119,hL,h0]
     . simp(disch:=apply zq;omega) only[go_sem,simprocAttr,↓Nat.reduceEqDiff,xx,fd119,m119,hL,h0]
section
variable [Nonempty (GlK gl)]
theorem qg0 (h:59<=n){leaf root:Dg}{i N:Nat}{f:Bool}{sh:Sh}{p:List Dg}(hN:1<=N)(hN2:N<=1099511627776)(hi:i<N)(hf:leaf.length=16)(hr:root.length=16)(ha:All16 p)(hl:p.length<=1000000)(hs:Sd p sh sB) :
  ∃hp,zts dd71 gl (call gl tab n) [i64 i,i64 N,.ptr 100000 [],.ptr 100001 [],.ptr 100002 [],.ptr 100003 []] [.ptr 100004 [],.ptr 100002 []]
   [(100000,.fix (.ar 16 .sc) (bAV leaf)),(100001,.fix (.ar 16 .sc) (bAV root)),(100002,.fix .sc (.bool false)),(100003,.fix .sc (.ptr 100004 [])),(100004,PS f sh p false)] =
   some (.bool (decide (p.length=dep i N/\cl nd z16 leaf i N p=root)),[(100000,.fix (.ar 16 .sc) (bAV leaf)),(100001,.fix (.ar 16 .sc) (bAV root)),(100002,.fix .sc (.bool (decide (p.length=dep i N/\cl nd z16 leaf i N p=root)))),(100003,.fix .sc (.ptr 100004 [])),(100004,hp)],[]):=by
 have l1:=b16t hf
 have l2:=H.bytes_all leaf
 have r1:=b16t hr
 have r2:=H.bytes_all root
 have h40:N<=2^40:=by
   have:(2:Nat)^40=1099511627776:=by decide
   omega
 obtain⟨f2,a⟩:=@z7i gl _ 40 n leaf i N f sh p false hf h40 hN hi (by omega) (by omega) ha hl hs
 have c1:=@z2u z16 leaf hf i N p
 have c2:=eqB c1 hr
 have c3:=H.bytes_all (cl nd z16 leaf i N p)
 have hL2:(lft p (dep i N)).length=p.length-dep i N:=by rw[lft,wD];omega
 have hS:shr p false (dep i N)=decide (p.length<dep i N):=by simp[shr]
 rw[hS]at a
 have hD:(decide (cl nd z16 leaf i N p=root)&& !(decide (p.length<dep i N))&&decide ((lft p (dep i N)).length=0))=decide (p.length=dep i N/\cl nd z16 leaf i N p=root):=by
  rw[hL2,Bool.eq_iff_iff]
  simp only[Bool.and_eq_true,decide_eq_true_eq,Bool.not_eq_true',decide_eq_false_iff_not]
  constructor
  . rintro ⟨⟨h1,h2⟩,h3⟩;exact⟨by omega,h1⟩
  . rintro ⟨h1,h2⟩;exact⟨⟨h2,by omega⟩,by omega⟩
 have st:=fun b=>@zy8 gl dd71 ztu (call gl tab n) 119 f2 sh (lft p (dep i N)) (decide (p.length<dep i N)) b
 refine⟨PS f2 sh (lft p (dep i N)) (decide (p.length<dep i N)),?_⟩
 generalize cl nd z16 leaf i N p=q at *
 have st1:=st (decide (q=root))
 rw[hD]at st1
 generalize decide (p.length=dep i N/\q=root)=b2 at *
 generalize hb:decide (q=root)=b at *
 generalize lft p (dep i N)=p2 at *
 generalize dep i N=k at *
 rw[z60]
 simp(disch:=apply zq;omega) only[go_sem,simprocAttr,↓Nat.reduceEqDiff,xx,d25A,d25B,zn5,zjs,zx9,ztu,zhk,d25d,zya,zn4,m71B,hf,hr,l1,l2,r1,r2,a,c1,c2,c3,zmn,st1]
theorem checkI_ok (h:60<=n){leaf root:Dg}{i N:Nat}{f:Bool}{sh:Sh}{p:List Dg}(hN:1<=N)(hN2:N<=1099511627776)(hi:i<N)(hf:leaf.length=16)(hr:root.length=16)(ha:All16 p)(hl:p.length<=1000000)(hs:Sd p sh sB) :
  call gl tab n 71 [bAV leaf,i64 i,i64 N,.lst f sh (dgL p),bAV root] []=some (.bool (decide (p.length=dep i N/\cl nd z16 leaf i N p=root)),[],[]):=by
 obtain⟨d,rfl⟩:=wF h
 have l1:=b16t hf
 have l2:=H.bytes_all leaf
 have r1:=b16t hr
 have r2:=H.bytes_all root
 obtain⟨hp,a⟩:=@qg0 gl (d+59) _ (by omega) leaf root i N f sh p hN hN2 hi hf hr ha hl hs
 generalize decide (p.length=dep i N/\cl nd z16 leaf i N p=root)=b at *
 rw[z2z (fd:=fd71) rfl]
 simp(disch:=apply zq;omega) only[go_sem,simprocAttr,↓Nat.reduceEqDiff,xx,d25A,d25B,zn5,zjs,zx9,ztu,zhk,d25d,zya,zn4,zs6,zs5,qa5,↓out16_eq,H.out16_len,H.out16_all,H.out16_pl,hf,hr,l1,l2,r1,r2,a]
end
end Go.Proofs.S44.M
namespace Go.Proofs.S44.M.B
open Go Go.Ev Go.Proofs
open Go.Proofs.S44
variable {gl :Gl} {n:Nat}
theorem zma (a b c d:Nat)(hb:b<256)(hd:d<256):(256*a+b)&&&(256*c+d)=256*(a&&&c)+(b&&&d):=by
 have e1:((256*a+b)&&&(256*c+d))/256=a&&&c:=by
  have:=Nat.shiftRight_and_distrib (a:=256*a+b) (b:=256*c+d) (i:=8)
  simp only[wG]at this
  rw[show(2:Nat)^8=256 from rfl]at this
  rw[this];congr 1<;>omega
 have e2:((256*a+b)&&&(256*c+d))%256=b&&&d:=by
  have:=Nat.and_mod_two_pow (a:=256*a+b) (b:=256*c+d) (n:=8)
  rw[show(2:Nat)^8=256 from rfl]at this
  rw[this];congr 1<;>omega
 rw[<-e1,<-e2];exact(wJ _ 256).symm
def mk (m:Nat):Nat->Nat
 | 0=>0
 | k+1=>256*mk m k+m
def y1 (b:Nat):Nat:=((b/2)&&&85)+(b&&&85)
def y2 (b:Nat):Nat:=((b/4)&&&51)+(b&&&51)
def y3 (b:Nat):Nat:=(b/16+b)&&&15
def X1 (k x:Nat):Nat:=((x/2)&&&mk 85 k)+(x&&&mk 85 k)
def X2 (k x:Nat):Nat:=((x/4)&&&mk 51 k)+(x&&&mk 51 k)
def X3 (k x:Nat):Nat:=(x/16+x)&&&mk 15 k
theorem d1 :∀t:Fin 2,∀y:Fin 128,(128*t.val+y.val)&&&85=y.val&&&85:=by decide +kernel
theorem d2 :∀t:Fin 4,∀y:Fin 64,(64*t.val+y.val)&&&51=y.val&&&51:=by decide +kernel
theorem d3 :∀y:Fin 256,y.val&&&15=y.val%16:=by decide +kernel
theorem dy :∀b:Fin 256,y1 b.val<256/\y2 (y1 b.val)<256/\y2 (y1 b.val)/16<=4/\y2 (y1 b.val)%16<=4/\y3 (y2 (y1 b.val))<=8:=by decide +kernel
theorem X1_s (k a b:Nat)(hb:b<256):X1 (k+1) (256*a+b)=256*X1 k a+y1 b:=by
 unfold X1 y1
 have e:(256*a+b)/2=256*(a/2)+(128*(a%2)+b/2):=by omega
 have h1:=d1 ⟨a%2,by omega⟩ ⟨b/2,by omega⟩
 simp only at h1
 rw[e,mk,zma _ _ _ _ (by omega) (by omega),zma _ _ _ _ hb (by omega),h1];omega
theorem X2_s (k a b:Nat)(hb:b<256):X2 (k+1) (256*a+b)=256*X2 k a+y2 b:=by
 unfold X2 y2
 have e:(256*a+b)/4=256*(a/4)+(64*(a%4)+b/4):=by omega
 have h1:=d2 ⟨a%4,by omega⟩ ⟨b/4,by omega⟩
 simp only at h1
 rw[e,mk,zma _ _ _ _ (by omega) (by omega),zma _ _ _ _ hb (by omega),h1];omega
theorem X3_s (k a b:Nat)(hb:b/16<=4/\b%16<=4)(ha:a%16<=4):X3 (k+1) (256*a+b)=256*X3 k a+y3 b:=by
 unfold X3 y3
 have e:(256*a+b)/16+(256*a+b)=256*(a/16+a)+(16*(a%16)+b/16+b):=by omega
 have h1:=d3 ⟨16*(a%16)+b/16+b,by omega⟩
 have h2:=d3 ⟨b/16+b,by omega⟩
 simp only at h1 h2
 rw[e,mk,zma _ _ _ _ (by omega) (by omega),h1,h2];omega
def pcb (b:Nat):Nat:=y3 (y2 (y1 b))
def Z (k x:Nat):Nat:=X3 k (X2 k (X1 k x))
theorem qhn (k x:Nat):X2 k (X1 k x)%16<=4:=by
 cases k with
 | zero=>simp[X2,mk]
 | succ k =>
   have e:x=256*(x/256)+x%256:=(wJ x 256).symm
   have h:=dy ⟨x%256,by omega⟩
   simp only at h
   rw[e,X1_s _ _ _ (by omega),X2_s _ _ _ h.1];omega
theorem Z_s (k a b:Nat)(hb:b<256):Z (k+1) (256*a+b)=256*Z k a+pcb b:=by
 have h:=dy ⟨b,hb⟩
 simp only at h
 unfold Z pcb
 rw[X1_s _ _ _ hb,X2_s _ _ _ h.1,X3_s _ _ _ ⟨h.2.2.1,h.2.2.2.1⟩ (qhn k a)]
theorem Z_0 (x:Nat):Z 0 x=0:=by simp[Z,X3,mk]
theorem pcb_le (b:Nat)(h:b<256):pcb b<=8:=(dy ⟨b,h⟩).2.2.2.2
theorem Z_8 {x:Nat}(hx:x<2^64):∃b0 b1 b2 b3 b4 b5 b6 b7:Nat,b0<256/\b1<256/\b2<256/\b3<256/\b4<256/\b5<256/\b6<256/\b7<256 /\
  x=256*(256*(256*(256*(256*(256*(256*b7+b6)+b5)+b4)+b3)+b2)+b1)+b0 /\
  Z 8 x=256*(256*(256*(256*(256*(256*(256*pcb b7+pcb b6)+pcb b5)+pcb b4)+pcb b3)+pcb b2)+pcb b1)+pcb b0:=by
 refine⟨x%256,x/256%256,x/256/256%256,x/256/256/256%256,x/256/256/256/256%256,x/256/256/256/256/256%256,x/256/256/256/256/256/256%256,x/256/256/256/256/256/256/256%256,by omega,by omega,by omega,by omega,by omega,by omega,by omega,by omega,by omega,?_⟩
 have s:∀k y,Z (k+1) y=256*Z k (y/256)+pcb (y%256):=fun k y=>by
  have:=Z_s k (y/256) (y%256) (by omega)
  rwa [wJ]at this
 rw[s,s,s,s,s,s,s,s,Z_0]
 simp only[Nat.mul_zero,Nat.zero_add]
def a1 (x:BitVec 64):BitVec 64:=(x>>>(1:Nat)&&&6148914691236517205#64)+(x&&&6148914691236517205#64)
def a2 (x:BitVec 64):BitVec 64:=(x>>>(2:Nat)&&&3689348814741910323#64)+(x&&&3689348814741910323#64)
def a3 (x:BitVec 64):BitVec 64:=(x>>>(4:Nat)+x)&&&1085102592571150095#64
def a4 (x:BitVec 64):BitVec 64:=x+x>>>(8:Nat)
def a5 (x:BitVec 64):BitVec 64:=x+x>>>(16:Nat)
def a6 (x:BitVec 64):BitVec 64:=x+x>>>(32:Nat)
def sw (x:BitVec 64):BitVec 64:=a6 (a5 (a4 (a3 (a2 (a1 x)))))
theorem ones_at (h:1<=n)(x:BitVec 64):call gl tab n 164 [.int .u64 (x.toNat:Int)] []=some (.int .i64 (sw x&&&127#64).toInt,[],[]):=by
 obtain⟨d,rfl⟩:=wF h
 rw[zad (fd:=z51) rfl]
 have h127:BitVec.ofInt 64 127=127#64:=rfl
 simp(disch:=apply zq;omega) only[go_sem,simprocAttr,↓Nat.reduceEqDiff,xx,z51,m164,qc4,h127,sw,a6,a5,a4,a3,a2,a1]
theorem mk85 :mk 85 8=6148914691236517205:=by decide
theorem mk51 :mk 51 8=3689348814741910323:=by decide
theorem mk15 :mk 15 8=1085102592571150095:=by decide
theorem qhm (x:BitVec 64):(a1 x).toNat=X1 8 x.toNat/\X1 8 x.toNat<=12297829382473034410:=by
 have h1:=wH (n:=x.toNat/2) (m:=6148914691236517205)
 have h2:=wH (n:=x.toNat) (m:=6148914691236517205)
 unfold a1 X1
 rw[mk85,wN,wL,wL,wM,wG]
 simp only[wO,Nat.reducePow,Nat.reduceMod]
 omega
theorem qhl (x:BitVec 64):(a2 x).toNat=X2 8 x.toNat/\X2 8 x.toNat<=7378697629483820646:=by
 have h1:=wH (n:=x.toNat/4) (m:=3689348814741910323)
 have h2:=wH (n:=x.toNat) (m:=3689348814741910323)
 unfold a2 X2
 rw[mk51,wN,wL,wL,wM,wG]
 simp only[wO,Nat.reducePow,Nat.reduceMod]
 omega
theorem qhk (x:BitVec 64)(h:x.toNat<=7378697629483820646):(a3 x).toNat=X3 8 x.toNat:=by
 unfold a3 X3
 rw[mk15,wL,wN,wM,wG]
 simp only[wO,Nat.reducePow,Nat.reduceMod]
 rw[wK (by omega)]
theorem Z_nat (x:BitVec 64):(a3 (a2 (a1 x))).toNat=Z 8 x.toNat:=by
 have h1:=qhm x
 have h2:=qhl (a1 x)
 rw[qhk _ (by rw[h2.1];exact h2.2),h2.1,h1.1];rfl
theorem dv (c x r:Nat)(hc:0<c)(h:r<c):(c*x+r)/c=x:=by
 rw[Nat.mul_add_div hc,Nat.div_eq_of_lt h,Nat.add_zero]
theorem zon {z:BitVec 64}{k:Nat}{c x r:Nat}(hk:c=2^k)(hz:z.toNat=c*x+r)(hr:r<c)(hb:c*x+r+x<18446744073709551616):(z+z>>>k).toNat=c*x+r+x:=by
 rw[wN,wM,wG,<-hk,hz,dv c x r (by rw[hk];exact Nat.pow_pos (by omega)) hr]
 exact wK hb
theorem lin4 {p0 p1 p2 p3 p4 p5 p6 p7:Nat}:256*(256*(256*(256*(256*(256*(256*p7+p6)+p5)+p4)+p3)+p2)+p1)+p0+(256*(256*(256*(256*(256*(256*p7+p6)+p5)+p4)+p3)+p2)+p1) =
  65536*(256*(256*(256*(256*(256*p7+(p6+p7))+(p5+p6))+(p4+p5))+(p3+p4))+(p2+p3))+(256*(p1+p2)+(p0+p1)):=by omega
theorem lin5 {q0 q1 q2 q3 q4 q5 q6 q7:Nat}:65536*(256*(256*(256*(256*(256*q7+q6)+q5)+q4)+q3)+q2)+(256*q1+q0)+(256*(256*(256*(256*(256*q7+q6)+q5)+q4)+q3)+q2) =
  4294967296*(256*(256*(256*q7+q6)+(q5+q7))+(q4+q6))+(256*(256*(256*(q3+q5)+(q2+q4))+(q1+q3))+(q0+q2)):=by omega
theorem lin6 {r0 r1 r2 r3 r4 r5 r6 r7:Nat}:4294967296*(256*(256*(256*r7+r6)+r5)+r4)+(256*(256*(256*r3+r2)+r1)+r0)+(256*(256*(256*r7+r6)+r5)+r4) =
  128*(33554432*(256*(256*(256*r7+r6)+r5)+r4)+2*(256*(256*r3+r2)+r1)+2*(256*(256*r7+r6)+r5))+(r0+r4):=by omega
theorem qhj {z:BitVec 64}{p0 p1 p2 p3 p4 p5 p6 p7:Nat}(h:z.toNat=256*(256*(256*(256*(256*(256*(256*p7+p6)+p5)+p4)+p3)+p2)+p1)+p0)
  (h0:p0<=8) (h1:p1<=8) (h2:p2<=8) (h3:p3<=8) (h4:p4<=8) (h5:p5<=8) (h6:p6<=8) (h7:p7<=8) :
  (a4 z).toNat=65536*(256*(256*(256*(256*(256*p7+(p6+p7))+(p5+p6))+(p4+p5))+(p3+p4))+(p2+p3))+(256*(p1+p2)+(p0+p1)):=by
 rw[<-lin4]
 exact zon (k:=8) (c:=256) rfl h (by omega) (by omega)
theorem qhi {z:BitVec 64}{q0 q1 q2 q3 q4 q5 q6 q7:Nat}(h:z.toNat=65536*(256*(256*(256*(256*(256*q7+q6)+q5)+q4)+q3)+q2)+(256*q1+q0))
  (h0:q0<=16) (h1:q1<=16) (h2:q2<=16) (h3:q3<=16) (h4:q4<=16) (h5:q5<=16) (h6:q6<=16) (h7:q7<=16) :
  (a5 z).toNat=4294967296*(256*(256*(256*q7+q6)+(q5+q7))+(q4+q6))+(256*(256*(256*(q3+q5)+(q2+q4))+(q1+q3))+(q0+q2)):=by
 rw[<-lin5]
 exact zon (k:=16) (c:=65536) rfl h (by omega) (by omega)
theorem qhh {z:BitVec 64}{r0 r1 r2 r3 r4 r5 r6 r7:Nat}(h:z.toNat=4294967296*(256*(256*(256*r7+r6)+r5)+r4)+(256*(256*(256*r3+r2)+r1)+r0))
  (h0:r0<=32) (h1:r1<=32) (h2:r2<=32) (h3:r3<=32) (h4:r4<=32) (h5:r5<=32) (h6:r6<=32) (h7:r7<=32):(a6 z&&&127#64).toNat=r0+r4:=by
 have e:=zon (k:=32) (c:=4294967296) rfl h (by omega) (by omega)
 rw[lin6]at e
 have e2:(127#64).toNat=2^7-1:=rfl
 rw[wL,e2,Nat.and_two_pow_sub_one_eq_mod,a6,e]
 generalize 33554432*(256*(256*(256*r7+r6)+r5)+r4)+2*(256*(256*r3+r2)+r1)+2*(256*(256*r7+r6)+r5)=K
 omega
theorem tail_nat {z:BitVec 64}{p0 p1 p2 p3 p4 p5 p6 p7:Nat}(h0:p0<=8)(h1:p1<=8)(h2:p2<=8)(h3:p3<=8)(h4:p4<=8)(h5:p5<=8)(h6:p6<=8)(h7:p7<=8)
  (h:z.toNat=256*(256*(256*(256*(256*(256*(256*p7+p6)+p5)+p4)+p3)+p2)+p1)+p0) :
  (a6 (a5 (a4 z))&&&127#64).toNat=p0+p1+(p2+p3)+(p4+p5+(p6+p7)):=by
 have b0:p0+p1<=16:=wE h0 h1
 have b1:p1+p2<=16:=wE h1 h2
 have b2:p2+p3<=16:=wE h2 h3
 have b3:p3+p4<=16:=wE h3 h4
 have b4:p4+p5<=16:=wE h4 h5
 have b5:p5+p6<=16:=wE h5 h6
 have b6:p6+p7<=16:=wE h6 h7
 have e4:=qhj h h0 h1 h2 h3 h4 h5 h6 h7
 have e5:=qhi (z:=a4 z) (q0:=p0+p1) (q1:=p1+p2) (q2:=p2+p3) (q3:=p3+p4) (q4:=p4+p5) (q5:=p5+p6) (q6:=p6+p7) (q7:=p7) e4 b0 b1 b2 b3 b4 b5 b6 (wI h7 (by decide))
 exact qhh (z:=a5 (a4 z)) (r0:=p0+p1+(p2+p3)) (r1:=p1+p2+(p3+p4)) (r2:=p2+p3+(p4+p5)) (r3:=p3+p4+(p5+p6)) (r4:=p4+p5+(p6+p7)) (r5:=p5+p6+p7) (r6:=p6+p7) (r7:=p7) e5
  (wE b0 b2) (wE b1 b3) (wE b2 b4) (wE b3 b5) (wE b4 b6) (wI (wE b5 h7) (by decide)) (wI b6 (by decide)) (wI h7 (by decide))
end Go.Proofs.S44.M.B
