/-
  Chapter 3: the proof of an element. No condition.
-/
import Derived.Test.YtcddalfeicoedaaDoorW94G13x3
set_option linter.all false
open List renaming length_take->wA,length_singleton->wB,length_drop->wC,length_pos_iff->wD,length_append->wE,dropLast_eq_take->wF,length_dropLast->wG
open Nat renaming exists_eq_add_of_le'->wH,le_refl->wI
namespace Go.Proofs.S94.M
open Go Go.Ev Go.Proofs Go.Mk
open Go.Proofs.S94.H (GlK GlR)
variable {gl :Gl} {n:Nat}
abbrev nilA :AV:=.lst true .sc []
abbrev F32 :OB:=.fix .sc (.fn 52 [.ptr 100000 [],.ptr 100001 []])
theorem incl_le :∀(c:Nat) (l:List Dg) (i:Nat),l.length<=c->(incl nd em l i).length<=l.length
 | 0,l,i,h=>by rw[ze0 (by omega)];simp
 | c+1,l,i,h=>by
   by_cases h2:2<=l.length
   . have hk:=zcu h2
     have hp:=zb6 l.length
     by_cases hi:i<spl l.length
     . rw[zly h2 hi,wE,wB]
       have:=incl_le c (l.take (spl l.length)) i (by rw[wA];omega)
       rw[wA]at this;omega
     . rw[zlz h2 hi,wE,wB]
       have:=incl_le c (l.drop (spl l.length)) (i-spl l.length) (by rw[wC];omega)
       rw[wC]at this;omega
   . rw[ze0 (by omega)];simp
theorem zhu (h:1<=n){l:List Dg}{f:Bool}(i:Nat)(h1:l.length=1) :
  call gl tab n 52 [.lst f sB (dgL l),i64 i,.ptr 100000 [],.ptr 100001 []] [(100000,F32),(100001,.fix .sc nilA)]=some (.tup [],[(100000,F32),(100001,.fix .sc nilA)],[]):=by
 obtain⟨d,rfl⟩:=wH h
 have hL:=dgL_length l
 rw[zat (fd:=fd52) rfl]
 simp(disch:=apply zq;omega) only[go_sem,simprocAttr,↓Nat.reduceEqDiff,xx,fd52,m52,hL,h1]
section
variable [Nonempty (GlK gl)]
theorem z8g :∀(c:Nat) {n:Nat} (l:List Dg) (f:Bool) (i:Nat),l.length<=c->9+c<=n->All16 l->l.length<=1000000->i<l.length->2<=l.length ->
  call gl tab n 52 [.lst f sB (dgL l),i64 i,.ptr 100000 [],.ptr 100001 []] [(100000,F32),(100001,.fix .sc nilA)] =
   some (.tup [],[(100000,F32),(100001,.fix .sc (.sl 20000 [] 0 (incl nd em l i).length))],[.grow sB (dgL (incl nd em l i))]):=by
 intro c
 induction c with
 | zero=>intro n l f i hc h ha hl hi h2;omega
 | succ c ih =>
   intro n l f i hc h ha hl hi h2
   obtain⟨d,rfl⟩:∃d,n=d+1:=⟨n-1,by omega⟩
   have hL:=dgL_length l
   have hT:=zhx l
   have hk:=zcu h2
   have hp:=zb6 l.length
   have k:=@zh6 gl d (by omega) l.length h2 (by omega)
   have na:=dgL_noImms
   have l1:1<=LIM:=by unfold LIM;omega
   by_cases hlo:i<spl l.length
   . have b:=fun f'=>@root_at gl _ c d (l.drop (spl l.length)) f' sB (by rw[wC];omega) (by omega) (ha.drop _) (by rw[wC];omega) (Or.inr rfl)
     rw[zly h2 hlo,zl8,wE,wB]
     have rb:=rt_len (ha.drop (spl l.length))
     have qb:=H.bytes_all (rt nd em (l.drop (spl l.length)))
     have tl:(l.take (spl l.length)).length=spl l.length:=by rw[wA];omega
     by_cases h3:2<=spl l.length
     . have a:=fun f'=>@ih d (l.take (spl l.length)) f' i (by omega) (by omega) (ha.take _) (by omega) (by omega) (by omega)
       have hN:=incl_le _ (l.take (spl l.length)) i (wI _)
       have hM:=dgL_length (incl nd em (l.take (spl l.length)) i)
       simp only[<-zdt]at a
       simp only[<-zef]at b
       generalize rt nd em (l.drop (spl l.length))=r at *
       generalize incl nd em (l.take (spl l.length)) i=p at *
       rw[tl]at hN
       have hlim:p.length+1<=LIM:=by unfold LIM;omega
       generalize spl l.length=z at *
       generalize l.length=w at *
       rw[zat (fd:=fd52) rfl]
       simp(implicitDefEqProofs:=false) (disch:=apply zq;omega) only[go_sem,simprocAttr,↓Nat.reduceEqDiff,xx,fd52,m52,↓out16_eq,H.out16_len,H.out16_all,H.out16_pl,hL,hT,hM,zc8,k,a,b,rb,qb,na,H.noImms_bytesAV]
     . have a:=fun f'=>@zhu gl d (by omega) (l.take (spl l.length)) f' i (by omega)
       rw[ze0 (l:=l.take (spl l.length)) (by omega)]
       simp only[<-zdt]at a
       simp only[<-zef]at b
       generalize rt nd em (l.drop (spl l.length))=r at *
       generalize spl l.length=z at *
       generalize l.length=w at *
       rw[zat (fd:=fd52) rfl]
       simp(implicitDefEqProofs:=false) (disch:=apply zq;omega) only[go_sem,simprocAttr,↓Nat.reduceEqDiff,xx,fd52,m52,↓out16_eq,H.out16_len,H.out16_all,H.out16_pl,hL,hT,zc8,k,a,b,rb,qb,na,H.noImms_bytesAV,dgL_nil]
   . have b:=fun f'=>@root_at gl _ c d (l.take (spl l.length)) f' sB (by rw[wA];omega) (by omega) (ha.take _) (by rw[wA];omega) (Or.inr rfl)
     rw[zlz h2 hlo,zl8,wE,wB]
     have rb:=rt_len (ha.take (spl l.length))
     have qb:=H.bytes_all (rt nd em (l.take (spl l.length)))
     have tl:(l.drop (spl l.length)).length=l.length-spl l.length:=by rw[wC]
     have ei:(i:Int)-(spl l.length:Int)=((i-spl l.length:Nat):Int):=by omega
     by_cases h3:2<=l.length-spl l.length
     . have a:=fun f'=>@ih d (l.drop (spl l.length)) f' (i-spl l.length) (by omega) (by omega) (ha.drop _) (by omega) (by omega) (by omega)
       have hN:=incl_le _ (l.drop (spl l.length)) (i-spl l.length) (wI _)
       have hM:=dgL_length (incl nd em (l.drop (spl l.length)) (i-spl l.length))
       simp only[<-zef]at a
       simp only[<-zdt]at b
       generalize rt nd em (l.take (spl l.length))=r at *
       generalize incl nd em (l.drop (spl l.length)) (i-spl l.length)=p at *
       rw[tl]at hN
       have hlim:p.length+1<=LIM:=by unfold LIM;omega
       generalize spl l.length=z at *
       generalize l.length=w at *
       rw[zat (fd:=fd52) rfl]
       simp(implicitDefEqProofs:=false) (disch:=apply zq;omega) only[go_sem,simprocAttr,↓Nat.reduceEqDiff,xx,fd52,m52,↓out16_eq,H.out16_len,H.out16_all,H.out16_pl,hL,hT,hM,zc8,k,a,b,rb,qb,na,H.noImms_bytesAV,ei]
     . have a:=fun f'=>@zhu gl d (by omega) (l.drop (spl l.length)) f' (i-spl l.length) (by omega)
       rw[ze0 (l:=l.drop (spl l.length)) (by omega)]
       simp only[<-zef]at a
       simp only[<-zdt]at b
       generalize rt nd em (l.take (spl l.length))=r at *
       generalize spl l.length=z at *
       generalize l.length=w at *
       rw[zat (fd:=fd52) rfl]
       simp(implicitDefEqProofs:=false) (disch:=apply zq;omega) only[go_sem,simprocAttr,↓Nat.reduceEqDiff,xx,fd52,m52,↓out16_eq,H.out16_len,H.out16_all,H.out16_pl,hL,hT,zc8,k,a,b,rb,qb,na,H.noImms_bytesAV,dgL_nil,ei]
end
def ansL (p:List Dg):AV:=if p=[]then nilA else .lst false sB (dgL p)
end Go.Proofs.S94.M
namespace Go.Proofs.S94.M
open Go Go.Ev Go.Proofs Go.Mk
open Go.Proofs.S94.H (GlK GlR)
variable {gl :Gl} {n:Nat}
theorem zet {k:Nat}{c:List AV}:(AV.fn k c).scalar=true:=rfl
section
variable [Nonempty (GlK gl)]
theorem inclusion_ok (h:1000<=n){l:List Dg}{f:Bool}{sh:Sh}{i:Nat}(ha:All16 l)(hl:l.length<=900)(hi:i<l.length)(hs:Sd l sh sB) :
  call gl tab n 29 [.lst f sh (dgL l),i64 i] []=some (.tup [.sl 20000 [] 0 (incl nd em l i).length,i64 0],[],[.grow sB (dgL (incl nd em l i))]):=by
 obtain⟨d,rfl⟩:=wH h
 have hL:=dgL_length l
 obtain rfl:sh=sB:=by rcases hs with hs|hs;subst hs;simp at hi;exact hs
 by_cases h2:2<=l.length
 . have a:=@z8g gl _ l.length (d+999) l f i (wI _) (by omega) ha (by omega) hi h2
   have hN:incl nd em l i≠[]:=by
    by_cases hlo:i<spl l.length
    . rw[zly h2 hlo];simp
    . rw[zlz h2 hlo];simp
   have hM:=dgL_length (incl nd em l i)
   have hT:=zhx (incl nd em l i)
   have na:=dgL_noImms (incl nd em l i)
   generalize incl nd em l i=p at *
   generalize l.length=w at *
   rw[zae (fd:=fd29) rfl]
   simp(disch:=apply zq;omega) only[go_sem,simprocAttr,↓Nat.reduceEqDiff,xx,fd29,m29,hL,hM,hT,a,na,zet]
 . have a:=@zhu gl (d+999) (by omega) l f i (by omega)
   rw[ze0 (by omega),List.length_nil,dgL_nil]
   generalize l.length=w at *
   rw[zae (fd:=fd29) rfl]
   simp(disch:=apply zq;omega) only[go_sem,simprocAttr,↓Nat.reduceEqDiff,xx,fd29,m29,hL,a,zet]
end
section
variable [Nonempty (GlR gl)]
end
end Go.Proofs.S94.M
namespace Go.Proofs.S94.M
open Go Go.Ev Go.Proofs Go.Mk
open Go.Proofs.S94.H (GlK GlR)
variable {gl :Gl} {n:Nat}
abbrev sP :Sh:=.st [.sc,.sc]
abbrev PS (f:Bool)(sh:Sh)(p:List Dg)(s:Bool):OB:=.fix sP (.agg [.lst f sh (dgL p),.bool s])
theorem zjx (p:List Dg):List.take (p.length-1) (dgL p)=dgL p.dropLast:=by rw[zdt,wF]
theorem zhv {p:List Dg}(z:Dg)(h:p≠[]):dgA p (p.length-1)=p.getLastD z:=by
 have hp:=wD.2 h
 rw[dgA,List.getD_eq_getElem?_getD,List.getElem?_eq_getElem (by omega),Option.getD_some,List.getLastD_eq_getLast?,List.getLast?_eq_some_getLast h,Option.getD_some,List.getLast_eq_getElem]
theorem zur (h:1<=n){f:Bool}{sh:Sh}{s:Bool}:call gl tab n 58 [.ptr 100000 []] [(100000,PS f sh [] s)]=some (bAV z16,[(100000,PS f sh [] true)],[]):=by
 obtain⟨d,rfl⟩:=wH h
 show _=some (AV.agg (zab z16),_,_)
 rw[<-qa9]
 rw[zat (fd:=fd58) rfl]
 simp(disch:=apply zq;omega) only[go_sem,simprocAttr,↓Nat.reduceEqDiff,xx,fd58,m58,↓out16_eq,H.out16_len,H.out16_all,H.out16_pl,dgL_nil]
 rfl
theorem zq3 (h:1<=n){p:List Dg}(hp:p≠[])(hl:p.length<=1000000)(ha:All16 p){f:Bool}{s:Bool} :
  call gl tab n 58 [.ptr 100000 []] [(100000,PS f sB p s)]=some (bAV (p.getLastD z16),[(100000,PS true sB p.dropLast s)],[]):=by
 obtain⟨d,rfl⟩:=wH h
 have h1:=wD.2 hp
 have hL:=dgL_length p
 have hD:=zjx p
 have hA:=dgL_at (l:=p) (i:=p.length-1) (by omega)
 have q1:=ha.at (i:=p.length-1) (by omega)
 rw[zhv z16 hp]at hA q1
 have q2:=H.bytes_all (p.getLastD z16)
 generalize p.getLastD z16=r at *
 have e1:((p.length:Int)-1)=((p.length-1:Nat):Int):=by omega
 rw[zat (fd:=fd58) rfl]
 simp(implicitDefEqProofs:=false) (disch:=apply zq;omega) only[go_sem,simprocAttr,↓Nat.reduceEqDiff,xx,fd58,m58,↓out16_eq,H.out16_len,H.out16_all,H.out16_pl,hL,hD,hA,q1,q2,e1,zc8]
theorem z19 {z leaf:Dg}(h:leaf.length=16){i N:Nat}{p:List Dg}:(cl nd z leaf i N p).length=16:=by
 by_cases h2:2<=N
 . by_cases hi:i<spl N
   . rw[qah h2 hi];exact zd9 _ _
   . rw[qai h2 hi];exact zd9 _ _
 . rw[zvn (by omega)];exact h
theorem zc5 {p:List Dg}(ha:All16 p):(p.getLastD z16).length=16:=by
 by_cases h:p=[]
 . subst h;rfl
 . rw[<-zhv z16 h];exact ha.at (by have:=wD.2 h;omega)
theorem All16.dropLast {p:List Dg}(h:All16 p):All16 p.dropLast:=by rw[wF];exact h.take _
def lft (p:List Dg)(k:Nat):List Dg:=p.take (p.length-k)
def shr (p:List Dg)(s:Bool)(k:Nat):Bool:=s||decide (p.length<k)
theorem zkj (p:List Dg):lft p 0=p:=by simp[lft]
theorem zfu (p:List Dg)(s:Bool):shr p s 0=s:=by simp[shr]
theorem zo4 (p:List Dg)(k:Nat):lft p (k+1)=lft p.dropLast k:=by
 rw[lft,lft,wF,List.take_take,wA]
 congr 1;omega
theorem zg6 {p:List Dg}(h:p≠[])(s:Bool)(k:Nat):shr p s (k+1)=shr p.dropLast s k:=by
 have:=wD.2 h
 simp only[shr,wG]
 congr 1
 exact decide_eq_decide.2 (by omega)
abbrev CH (leaf:Dg)(f:Bool)(sh:Sh)(p:List Dg)(s:Bool):Hp :=
 [(100000,.fix (.ar 16 .sc) (bAV leaf)),(100001,.fix .sc (.ptr 100002 [])),(100002,PS f sh p s),(100003,.fix .sc (.fn 57 [.ptr 100000 [],.ptr 100001 [],.ptr 100003 []]))]
theorem zrp (h:1<=n){leaf:Dg}(hf:leaf.length=16){i N:Nat}(hN:N=1){f:Bool}{sh:Sh}{p:List Dg}{s:Bool} :
  call gl tab n 57 [i64 i,i64 N,.ptr 100000 [],.ptr 100001 [],.ptr 100003 []] (CH leaf f sh p s)=some (bAV leaf,CH leaf f sh p s,[]):=by
 obtain⟨d,rfl⟩:=wH h
 have q2:=H.bytes_all leaf
 subst hN
 rw[zat (fd:=fd57) rfl]
 simp(disch:=apply zq;omega) only[go_sem,simprocAttr,↓Nat.reduceEqDiff,xx,fd57,m57,↓out16_eq,H.out16_len,H.out16_all,H.out16_pl,hf,q2]
section
variable [Nonempty (GlK gl)]
set_option maxHeartbeats 1000000 in
theorem z5q :∀(c:Nat) {n:Nat} {leaf:Dg} {i N:Nat} {f:Bool} {sh:Sh} {p:List Dg} {s:Bool},leaf.length=16->N<=2^c->1<=N->i<N->c<=60->9+c<=n->All16 p->p.length<=1000000->Sd p sh sB ->
  ∃f',call gl tab n 57 [i64 i,i64 N,.ptr 100000 [],.ptr 100001 [],.ptr 100003 []] (CH leaf f sh p s)=some (bAV (cl nd z16 leaf i N p),CH leaf f' sh (lft p (dep i N)) (shr p s (dep i N)),[]):=by
 intro c
 induction c with
 | zero =>
   intro n leaf i N f sh p s hf hN h1 hi hc h ha hl hs
   have hN1:N=1:=by have:(2:Nat)^0=1:=rfl;omega
   rw[zvn (by omega),dep_one (by omega),zkj,zfu]
   exact⟨f,zrp (by omega) hf hN1⟩
 | succ c ih =>
   intro n leaf i N f sh p s hf hN h1 hi hc h ha hl hs
   by_cases hN1:N=1
   . rw[zvn (by omega),dep_one (by omega),zkj,zfu]
     exact⟨f,zrp (by omega) hf hN1⟩
   obtain⟨d,rfl⟩:∃d,n=d+1:=⟨n-1,by omega⟩
   have h2:2<=N:=by omega
   have hk:=zcu h2
   have hp:=zb6 N
   have hle:=z57 h2 hN
   have hge:=@zyh N
   have h60:2^(c+1)<=2^60:=Nat.pow_le_pow_right (by omega) (by omega)
   have hN60:N<=1152921504606846976:=by
     have:(2:Nat)^60=1152921504606846976:=by decide
     omega
   have k:=@zh6 gl d (by omega) N h2 (by omega)
   have q2:=H.bytes_all leaf
   have key:∃f1,(call gl tab d 58 [.ptr 100000 []] [(100000,PS f sh p s)]=some (bAV (p.getLastD z16),[(100000,PS f1 sh p.dropLast (shr p s 1))],[])):=by
    by_cases hp0:p=[]
    . subst hp0
      refine⟨f,?_⟩
      rw[show shr [] s 1=true by simp[shr]]
      exact zur (by omega)
    . obtain rfl:sh=sB:=by rcases hs with hs|hs;exact absurd hs hp0;exact hs
      refine⟨true,?_⟩
      rw[show shr p s 1=s from by rw[zg6 hp0,zfu]]
      exact zq3 (by omega) hp0 hl ha
   obtain⟨f1,key⟩:=key
   have hs':Sd p.dropLast sh sB:=by rcases hs with hs|hs;exact Or.inl (by rw[hs];rfl);exact Or.inr hs
   have e1:∀k,lft p.dropLast k=lft p (k+1):=fun k=>(zo4 p k).symm
   have e2:∀k,shr p.dropLast (shr p s 1) k=shr p s (k+1):=fun k=>by
    by_cases hp0:p=[]
    . subst hp0;simp[shr]
    . rw[zg6 hp0 s k,zg6 hp0,zfu]
   have g1:=zc5 ha
   have g2:=H.bytes_all (p.getLastD z16)
   by_cases hlo:i<spl N
   . obtain⟨f2,a⟩:=@ih d leaf i (spl N) f1 sh p.dropLast (shr p s 1) hf hle (by omega) hlo (by omega) (by omega) ha.dropLast (by rw[wG];omega) hs'
     rw[e1,e2,<-z6o h2 hlo]at a
     have c1:=@z19 z16 leaf hf i (spl N) p.dropLast
     have e:=@zgn gl d _ (by omega) _ _ c1 g1
     have e3:=zd9 (cl nd z16 leaf i (spl N) p.dropLast) (p.getLastD z16)
     have e4:=H.bytes_all (nd (cl nd z16 leaf i (spl N) p.dropLast) (p.getLastD z16))
     rw[qah h2 hlo]
     refine⟨f2,?_⟩
     generalize nd (cl nd z16 leaf i (spl N) p.dropLast) (p.getLastD z16)=q at *
     generalize cl nd z16 leaf i (spl N) p.dropLast=qa at *
     generalize p.getLastD z16=r at *
     generalize spl N=z at *
     rw[zat (fd:=fd57) rfl]
     simp(implicitDefEqProofs:=false) (disch:=apply zq;omega) only[go_sem,simprocAttr,↓Nat.reduceEqDiff,xx,fd57,m57,↓out16_eq,H.out16_len,H.out16_all,H.out16_pl,k,key,a,e,e3,e4,g1,g2,q2,hf]
   . have ei:(i:Int)-(spl N:Int)=((i-spl N:Nat):Int):=by omega
     have eN:(N:Int)-(spl N:Int)=((N-spl N:Nat):Int):=by omega
     obtain⟨f2,a⟩:=@ih d leaf (i-spl N) (N-spl N) f1 sh p.dropLast (shr p s 1) hf (by omega) (by omega) (by omega) (by omega) (by omega) ha.dropLast (by rw[wG];omega) hs'
     rw[e1,e2,<-z6p h2 hlo]at a
     have c1:=@z19 z16 leaf hf (i-spl N) (N-spl N) p.dropLast
     have e:=@zgn gl d _ (by omega) _ _ g1 c1
     have e3:=zd9 (p.getLastD z16) (cl nd z16 leaf (i-spl N) (N-spl N) p.dropLast)
     have e4:=H.bytes_all (nd (p.getLastD z16) (cl nd z16 leaf (i-spl N) (N-spl N) p.dropLast))
     rw[qai h2 hlo]
     refine⟨f2,?_⟩
     generalize nd (p.getLastD z16) (cl nd z16 leaf (i-spl N) (N-spl N) p.dropLast)=q at *
     generalize cl nd z16 leaf (i-spl N) (N-spl N) p.dropLast=qa at *
     generalize p.getLastD z16=r at *
     generalize spl N=z at *
     rw[zat (fd:=fd57) rfl]
     simp(implicitDefEqProofs:=false) (disch:=apply zq;omega) only[go_sem,simprocAttr,↓Nat.reduceEqDiff,xx,fd57,m57,↓out16_eq,H.out16_len,H.out16_all,H.out16_pl,k,key,a,e,e3,e4,g1,g2,q2,hf,ei,eN]
end
end Go.Proofs.S94.M
