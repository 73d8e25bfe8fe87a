/-
  Chapter 3: the proof of an element. No condition.
-/
import Derived.Test.YtcddalfeicoedaaGreatDoorW44G15x4
set_option linter.all false
open List renaming length_take->wA,length_singleton->wB,length_drop->wC,length_pos_iff->wD,length_append->wE,dropLast_eq_take->wF,length_dropLast->wG
open Nat renaming exists_eq_add_of_le'->wH,le_refl->wI
namespace Go.Proofs.S44.M
open Go Go.Ev Go.Proofs Go.Mk
open Go.Proofs.S44.H (GlK GlR)
variable {gl :Gl} {n:Nat}
abbrev nilA :AV:=.lst true .sc []
abbrev F32 :OB:=.fix .sc (.fn 116 [.ptr 100000 [],.ptr 100001 []])
theorem incl_le :∀(c:Nat) (l:List Dg) (i:Nat),l.length<=c->(incl nd em l i).length<=l.length
 | 0,l,i,h=>by rw[ze0 (by omega)];simp
 | c+1,l,i,h=>by
   by_cases h2:2<=l.length
   . have hk:=zej h2
     have hp:=zdz l.length
     by_cases hi:i<spl l.length
     . rw[zl5 h2 hi,wE,wB]
       have:=incl_le c (l.take (spl l.length)) i (by rw[wA];omega)
       rw[wA]at this;omega
     . rw[zl6 h2 hi,wE,wB]
       have:=incl_le c (l.drop (spl l.length)) (i-spl l.length) (by rw[wC];omega)
       rw[wC]at this;omega
   . rw[ze0 (by omega)];simp
theorem zh0 (h:1<=n){l:List Dg}{f:Bool}(i:Nat)(h1:l.length=1) :
  call gl tab n 116 [.lst f sB (dgL l),i64 i,.ptr 100000 [],.ptr 100001 []] [(100000,F32),(100001,.fix .sc nilA)]=some (.tup [],[(100000,F32),(100001,.fix .sc nilA)],[]):=by
 obtain⟨d,rfl⟩:=wH h
 have hL:=dgL_length l
 rw[za3 (fd:=zkd) rfl]
 simp(disch:=apply zq;omega) only[go_sem,simprocAttr,↓Nat.reduceEqDiff,xx,zkd,m116,hL,h1]
section
variable [Nonempty (GlK gl)]
theorem z9k :∀(c:Nat) {n:Nat} (l:List Dg) (f:Bool) (i:Nat),l.length<=c->9+c<=n->All16 l->l.length<=1000000->i<l.length->2<=l.length ->
  call gl tab n 116 [.lst f sB (dgL l),i64 i,.ptr 100000 [],.ptr 100001 []] [(100000,F32),(100001,.fix .sc nilA)] =
   some (.tup [],[(100000,F32),(100001,.fix .sc (.sl 20000 [] 0 (incl nd em l i).length))],[.grow sB (dgL (incl nd em l i))]):=by
 intro c
 induction c with
 | zero=>intro n l f i hc h ha hl hi h2;omega
 | succ c ih =>
   intro n l f i hc h ha hl hi h2
   obtain⟨d,rfl⟩:∃d,n=d+1:=⟨n-1,by omega⟩
   have hL:=dgL_length l
   have hT:=zmg l
   have hk:=zej h2
   have hp:=zdz l.length
   have k:=@zog gl d (by omega) l.length h2 (by omega)
   have na:=zhl
   have l1:1<=LIM:=by unfold LIM;omega
   by_cases hlo:i<spl l.length
   . have b:=fun f'=>@root_at gl _ c d (l.drop (spl l.length)) f' sB (by rw[wC];omega) (by omega) (ha.drop _) (by rw[wC];omega) (Or.inr rfl)
     rw[zl5 h2 hlo,zs9,wE,wB]
     have rb:=zlc (ha.drop (spl l.length))
     have qb:=H.bytes_all (rt nd em (l.drop (spl l.length)))
     have tl:(l.take (spl l.length)).length=spl l.length:=by rw[wA];omega
     by_cases h3:2<=spl l.length
     . have a:=fun f'=>@ih d (l.take (spl l.length)) f' i (by omega) (by omega) (ha.take _) (by omega) (by omega) (by omega)
       have hN:=incl_le _ (l.take (spl l.length)) i (wI _)
       have hM:=dgL_length (incl nd em (l.take (spl l.length)) i)
       simp only[<-zf8]at a
       simp only[<-zhm]at b
       generalize rt nd em (l.drop (spl l.length))=r at *
       generalize incl nd em (l.take (spl l.length)) i=p at *
       rw[tl]at hN
       have hlim:p.length+1<=LIM:=by unfold LIM;omega
       generalize spl l.length=z at *
       generalize l.length=w at *
       rw[za3 (fd:=zkd) rfl]
       simp(implicitDefEqProofs:=false) (disch:=apply zq;omega) only[go_sem,simprocAttr,↓Nat.reduceEqDiff,xx,zkd,m116,↓out16_eq,H.out16_len,H.out16_all,H.out16_pl,hL,hT,hM,zd0,k,a,b,rb,qb,na,H.noImms_bytesAV]
     . have a:=fun f'=>@zh0 gl d (by omega) (l.take (spl l.length)) f' i (by omega)
       rw[ze0 (l:=l.take (spl l.length)) (by omega)]
       simp only[<-zf8]at a
       simp only[<-zhm]at b
       generalize rt nd em (l.drop (spl l.length))=r at *
       generalize spl l.length=z at *
       generalize l.length=w at *
       rw[za3 (fd:=zkd) rfl]
       simp(implicitDefEqProofs:=false) (disch:=apply zq;omega) only[go_sem,simprocAttr,↓Nat.reduceEqDiff,xx,zkd,m116,↓out16_eq,H.out16_len,H.out16_all,H.out16_pl,hL,hT,zd0,k,a,b,rb,qb,na,H.noImms_bytesAV,zgw]
   . have b:=fun f'=>@root_at gl _ c d (l.take (spl l.length)) f' sB (by rw[wA];omega) (by omega) (ha.take _) (by rw[wA];omega) (Or.inr rfl)
     rw[zl6 h2 hlo,zs9,wE,wB]
     have rb:=zlc (ha.take (spl l.length))
     have qb:=H.bytes_all (rt nd em (l.take (spl l.length)))
     have tl:(l.drop (spl l.length)).length=l.length-spl l.length:=by rw[wC]
     have ei:(i:Int)-(spl l.length:Int)=((i-spl l.length:Nat):Int):=by omega
     by_cases h3:2<=l.length-spl l.length
     . have a:=fun f'=>@ih d (l.drop (spl l.length)) f' (i-spl l.length) (by omega) (by omega) (ha.drop _) (by omega) (by omega) (by omega)
       have hN:=incl_le _ (l.drop (spl l.length)) (i-spl l.length) (wI _)
       have hM:=dgL_length (incl nd em (l.drop (spl l.length)) (i-spl l.length))
       simp only[<-zhm]at a
       simp only[<-zf8]at b
       generalize rt nd em (l.take (spl l.length))=r at *
       generalize incl nd em (l.drop (spl l.length)) (i-spl l.length)=p at *
       rw[tl]at hN
       have hlim:p.length+1<=LIM:=by unfold LIM;omega
       generalize spl l.length=z at *
       generalize l.length=w at *
       rw[za3 (fd:=zkd) rfl]
       simp(implicitDefEqProofs:=false) (disch:=apply zq;omega) only[go_sem,simprocAttr,↓Nat.reduceEqDiff,xx,zkd,m116,↓out16_eq,H.out16_len,H.out16_all,H.out16_pl,hL,hT,hM,zd0,k,a,b,rb,qb,na,H.noImms_bytesAV,ei]
     . have a:=fun f'=>@zh0 gl d (by omega) (l.drop (spl l.length)) f' (i-spl l.length) (by omega)
       rw[ze0 (l:=l.drop (spl l.length)) (by omega)]
       simp only[<-zhm]at a
       simp only[<-zf8]at b
       generalize rt nd em (l.take (spl l.length))=r at *
       generalize spl l.length=z at *
       generalize l.length=w at *
       rw[za3 (fd:=zkd) rfl]
       simp(implicitDefEqProofs:=false) (disch:=apply zq;omega) only[go_sem,simprocAttr,↓Nat.reduceEqDiff,xx,zkd,m116,↓out16_eq,H.out16_len,H.out16_all,H.out16_pl,hL,hT,zd0,k,a,b,rb,qb,na,H.noImms_bytesAV,zgw,ei]
end
def ansL (p:List Dg):AV:=if p=[]then nilA else .lst false sB (dgL p)
end Go.Proofs.S44.M
namespace Go.Proofs.S44.M
open Go Go.Ev Go.Proofs Go.Mk
open Go.Proofs.S44.H (GlK GlR)
variable {gl :Gl} {n:Nat}
theorem zmd {k:Nat}{c:List AV}:(AV.fn k c).scalar=true:=rfl
section
variable [Nonempty (GlK gl)]
theorem inclusion_ok (h:1000<=n){l:List Dg}{f:Bool}{sh:Sh}{i:Nat}(ha:All16 l)(hl:l.length<=900)(hi:i<l.length)(hs:Sd l sh sB) :
  call gl tab n 67 [.lst f sh (dgL l),i64 i] []=some (.tup [.sl 20000 [] 0 (incl nd em l i).length,i64 0],[],[.grow sB (dgL (incl nd em l i))]):=by
 obtain⟨d,rfl⟩:=wH h
 have hL:=dgL_length l
 obtain rfl:sh=sB:=by rcases hs with hs|hs;subst hs;simp at hi;exact hs
 by_cases h2:2<=l.length
 . have a:=@z9k gl _ l.length (d+999) l f i (wI _) (by omega) ha (by omega) hi h2
   have hN:incl nd em l i≠[]:=by
    by_cases hlo:i<spl l.length
    . rw[zl5 h2 hlo];simp
    . rw[zl6 h2 hlo];simp
   have hM:=dgL_length (incl nd em l i)
   have hT:=zmg (incl nd em l i)
   have na:=zhl (incl nd em l i)
   generalize incl nd em l i=p at *
   generalize l.length=w at *
   rw[zaf (fd:=fd67) rfl]
   simp(disch:=apply zq;omega) only[go_sem,simprocAttr,↓Nat.reduceEqDiff,xx,fd67,m67,hL,hM,hT,a,na,zmd]
 . have a:=@zh0 gl (d+999) (by omega) l f i (by omega)
   rw[ze0 (by omega),List.length_nil,zgw]
   generalize l.length=w at *
   rw[zaf (fd:=fd67) rfl]
   simp(disch:=apply zq;omega) only[go_sem,simprocAttr,↓Nat.reduceEqDiff,xx,fd67,m67,hL,a,zmd]
end
section
variable [Nonempty (GlR gl)]
end
end Go.Proofs.S44.M
namespace Go.Proofs.S44.M
open Go Go.Ev Go.Proofs Go.Mk
open Go.Proofs.S44.H (GlK GlR)
variable {gl :Gl} {n:Nat}
abbrev sP :Sh:=.st [.sc,.sc]
abbrev PS (f:Bool)(sh:Sh)(p:List Dg)(s:Bool):OB:=.fix sP (.agg [.lst f sh (dgL p),.bool s])
theorem zgx (p:List Dg):List.take (p.length-1) (dgL p)=dgL p.dropLast:=by rw[zf8,wF]
theorem zf4 {p:List Dg}(z:Dg)(h:p≠[]):dgA p (p.length-1)=p.getLastD z:=by
 have hp:=wD.2 h
 rw[dgA,List.getD_eq_getElem?_getD,List.getElem?_eq_getElem (by omega),Option.getD_some,List.getLastD_eq_getLast?,List.getLast?_eq_some_getLast h,Option.getD_some,List.getLast_eq_getElem]
theorem z4d (h:1<=n){f:Bool}{sh:Sh}{s:Bool}:call gl tab n 121 [.ptr 100000 []] [(100000,PS f sh [] s)]=some (bAV z16,[(100000,PS f sh [] true)],[]):=by
 obtain⟨d,rfl⟩:=wH h
 show _=some (AV.agg (zac z16),_,_)
 rw[<-qcg]
 rw[za3 (fd:=zxe) rfl]
 simp(disch:=apply zq;omega) only[go_sem,simprocAttr,↓Nat.reduceEqDiff,xx,zxe,m121,↓out16_eq,H.out16_len,H.out16_all,H.out16_pl,zgw]
 rfl
theorem zz4 (h:1<=n){p:List Dg}(hp:p≠[])(hl:p.length<=1000000)(ha:All16 p){f:Bool}{s:Bool} :
  call gl tab n 121 [.ptr 100000 []] [(100000,PS f sB p s)]=some (bAV (p.getLastD z16),[(100000,PS true sB p.dropLast s)],[]):=by
 obtain⟨d,rfl⟩:=wH h
 have h1:=wD.2 hp
 have hL:=dgL_length p
 have hD:=zgx p
 have hA:=dgL_at (l:=p) (i:=p.length-1) (by omega)
 have q1:=ha.at (i:=p.length-1) (by omega)
 rw[zf4 z16 hp]at hA q1
 have q2:=H.bytes_all (p.getLastD z16)
 generalize p.getLastD z16=r at *
 have e1:((p.length:Int)-1)=((p.length-1:Nat):Int):=by omega
 rw[za3 (fd:=zxe) rfl]
 simp(implicitDefEqProofs:=false) (disch:=apply zq;omega) only[go_sem,simprocAttr,↓Nat.reduceEqDiff,xx,zxe,m121,↓out16_eq,H.out16_len,H.out16_all,H.out16_pl,hL,hD,hA,q1,q2,e1,zd0]
theorem z18 {z leaf:Dg}(h:leaf.length=16){i N:Nat}{p:List Dg}:(cl nd z leaf i N p).length=16:=by
 by_cases h2:2<=N
 . by_cases hi:i<spl N
   . rw[qbo h2 hi];exact zfh _ _
   . rw[qbp h2 hi];exact zfh _ _
 . rw[zvl (by omega)];exact h
theorem zgs {p:List Dg}(ha:All16 p):(p.getLastD z16).length=16:=by
 by_cases h:p=[]
 . subst h;rfl
 . rw[<-zf4 z16 h];exact ha.at (by have:=wD.2 h;omega)
theorem All16.dropLast {p:List Dg}(h:All16 p):All16 p.dropLast:=by rw[wF];exact h.take _
def lft (p:List Dg)(k:Nat):List Dg:=p.take (p.length-k)
def shr (p:List Dg)(s:Bool)(k:Nat):Bool:=s||decide (p.length<k)
theorem zui (p:List Dg):lft p 0=p:=by simp[lft]
theorem zkj (p:List Dg)(s:Bool):shr p s 0=s:=by simp[shr]
theorem z37 (p:List Dg)(k:Nat):lft p (k+1)=lft p.dropLast k:=by
 rw[lft,lft,wF,List.take_take,wA]
 congr 1;omega
theorem zoi {p:List Dg}(h:p≠[])(s:Bool)(k:Nat):shr p s (k+1)=shr p.dropLast s k:=by
 have:=wD.2 h
 simp only[shr,wG]
 congr 1
 exact decide_eq_decide.2 (by omega)
abbrev CH (leaf:Dg)(f:Bool)(sh:Sh)(p:List Dg)(s:Bool):Hp :=
 [(100000,.fix (.ar 16 .sc) (bAV leaf)),(100001,.fix .sc (.ptr 100002 [])),(100002,PS f sh p s),(100003,.fix .sc (.fn 120 [.ptr 100000 [],.ptr 100001 [],.ptr 100003 []]))]
theorem zrn (h:1<=n){leaf:Dg}(hf:leaf.length=16){i N:Nat}(hN:N=1){f:Bool}{sh:Sh}{p:List Dg}{s:Bool} :
  call gl tab n 120 [i64 i,i64 N,.ptr 100000 [],.ptr 100001 [],.ptr 100003 []] (CH leaf f sh p s)=some (bAV leaf,CH leaf f sh p s,[]):=by
 obtain⟨d,rfl⟩:=wH h
 have q2:=H.bytes_all leaf
 subst hN
 rw[za3 (fd:=zri) rfl]
 simp(disch:=apply zq;omega) only[go_sem,simprocAttr,↓Nat.reduceEqDiff,xx,zri,m120,↓out16_eq,H.out16_len,H.out16_all,H.out16_pl,hf,q2]
section
variable [Nonempty (GlK gl)]
set_option maxHeartbeats 1000000 in
theorem z6n :∀(c:Nat) {n:Nat} {leaf:Dg} {i N:Nat} {f:Bool} {sh:Sh} {p:List Dg} {s:Bool},leaf.length=16->N<=2^c->1<=N->i<N->c<=60->9+c<=n->All16 p->p.length<=1000000->Sd p sh sB ->
  ∃f',call gl tab n 120 [i64 i,i64 N,.ptr 100000 [],.ptr 100001 [],.ptr 100003 []] (CH leaf f sh p s)=some (bAV (cl nd z16 leaf i N p),CH leaf f' sh (lft p (dep i N)) (shr p s (dep i N)),[]):=by
 intro c
 induction c with
 | zero =>
   intro n leaf i N f sh p s hf hN h1 hi hc h ha hl hs
   have hN1:N=1:=by have:(2:Nat)^0=1:=rfl;omega
   rw[zvl (by omega),dep_one (by omega),zui,zkj]
   exact⟨f,zrn (by omega) hf hN1⟩
 | succ c ih =>
   intro n leaf i N f sh p s hf hN h1 hi hc h ha hl hs
   by_cases hN1:N=1
   . rw[zvl (by omega),dep_one (by omega),zui,zkj]
     exact⟨f,zrn (by omega) hf hN1⟩
   obtain⟨d,rfl⟩:∃d,n=d+1:=⟨n-1,by omega⟩
   have h2:2<=N:=by omega
   have hk:=zej h2
   have hp:=zdz N
   have hle:=qdb h2 hN
   have hge:=@z61 N
   have h60:2^(c+1)<=2^60:=Nat.pow_le_pow_right (by omega) (by omega)
   have hN60:N<=1152921504606846976:=by
     have:(2:Nat)^60=1152921504606846976:=by decide
     omega
   have k:=@zog gl d (by omega) N h2 (by omega)
   have q2:=H.bytes_all leaf
   have key:∃f1,(call gl tab d 121 [.ptr 100000 []] [(100000,PS f sh p s)]=some (bAV (p.getLastD z16),[(100000,PS f1 sh p.dropLast (shr p s 1))],[])):=by
    by_cases hp0:p=[]
    . subst hp0
      refine⟨f,?_⟩
      rw[show shr [] s 1=true by simp[shr]]
      exact z4d (by omega)
    . obtain rfl:sh=sB:=by rcases hs with hs|hs;exact absurd hs hp0;exact hs
      refine⟨true,?_⟩
      rw[show shr p s 1=s from by rw[zoi hp0,zkj]]
      exact zz4 (by omega) hp0 hl ha
   obtain⟨f1,key⟩:=key
   have hs':Sd p.dropLast sh sB:=by rcases hs with hs|hs;exact Or.inl (by rw[hs];rfl);exact Or.inr hs
   have e1:∀k,lft p.dropLast k=lft p (k+1):=fun k=>(z37 p k).symm
   have e2:∀k,shr p.dropLast (shr p s 1) k=shr p s (k+1):=fun k=>by
    by_cases hp0:p=[]
    . subst hp0;simp[shr]
    . rw[zoi hp0 s k,zoi hp0,zkj]
   have g1:=zgs ha
   have g2:=H.bytes_all (p.getLastD z16)
   by_cases hlo:i<spl N
   . obtain⟨f2,a⟩:=@ih d leaf i (spl N) f1 sh p.dropLast (shr p s 1) hf hle (by omega) hlo (by omega) (by omega) ha.dropLast (by rw[wG];omega) hs'
     rw[e1,e2,<-z1y h2 hlo]at a
     have c1:=@z18 z16 leaf hf i (spl N) p.dropLast
     have e:=@zls gl d _ (by omega) _ _ c1 g1
     have e3:=zfh (cl nd z16 leaf i (spl N) p.dropLast) (p.getLastD z16)
     have e4:=H.bytes_all (nd (cl nd z16 leaf i (spl N) p.dropLast) (p.getLastD z16))
     rw[qbo h2 hlo]
     refine⟨f2,?_⟩
     generalize nd (cl nd z16 leaf i (spl N) p.dropLast) (p.getLastD z16)=q at *
     generalize cl nd z16 leaf i (spl N) p.dropLast=qa at *
     generalize p.getLastD z16=r at *
     generalize spl N=z at *
     rw[za3 (fd:=zri) rfl]
     simp(implicitDefEqProofs:=false) (disch:=apply zq;omega) only[go_sem,simprocAttr,↓Nat.reduceEqDiff,xx,zri,m120,↓out16_eq,H.out16_len,H.out16_all,H.out16_pl,k,key,a,e,e3,e4,g1,g2,q2,hf]
   . have ei:(i:Int)-(spl N:Int)=((i-spl N:Nat):Int):=by omega
     have eN:(N:Int)-(spl N:Int)=((N-spl N:Nat):Int):=by omega
     obtain⟨f2,a⟩:=@ih d leaf (i-spl N) (N-spl N) f1 sh p.dropLast (shr p s 1) hf (by omega) (by omega) (by omega) (by omega) (by omega) ha.dropLast (by rw[wG];omega) hs'
     rw[e1,e2,<-z1z h2 hlo]at a
     have c1:=@z18 z16 leaf hf (i-spl N) (N-spl N) p.dropLast
     have e:=@zls gl d _ (by omega) _ _ g1 c1
     have e3:=zfh (p.getLastD z16) (cl nd z16 leaf (i-spl N) (N-spl N) p.dropLast)
     have e4:=H.bytes_all (nd (p.getLastD z16) (cl nd z16 leaf (i-spl N) (N-spl N) p.dropLast))
     rw[qbp h2 hlo]
     refine⟨f2,?_⟩
     generalize nd (p.getLastD z16) (cl nd z16 leaf (i-spl N) (N-spl N) p.dropLast)=q at *
     generalize cl nd z16 leaf (i-spl N) (N-spl N) p.dropLast=qa at *
     generalize p.getLastD z16=r at *
     generalize spl N=z at *
     rw[za3 (fd:=zri) rfl]
     simp(implicitDefEqProofs:=false) (disch:=apply zq;omega) only[go_sem,simprocAttr,↓Nat.reduceEqDiff,xx,zri,m120,↓out16_eq,H.out16_len,H.out16_all,H.out16_pl,k,key,a,e,e3,e4,g1,g2,q2,hf,ei,eN]
end
end Go.Proofs.S44.M
namespace Go.Proofs.S44.M
open Go Go.Ev Go.Proofs Go.Mk
open Go.Proofs.S44.H (GlK GlR)
variable {gl :Gl} {n:Nat}
theorem d25A :dd71.mA=[zsq,zsp,z96]:=rfl
theorem d25B :dd71.mB=m71B:=rfl
theorem znu :dd71.fos=[(.o 31 (.l 11))]:=rfl
theorem zjn :dd71.dargs=[(.t 31),(.t 10)]:=rfl
theorem zxn :dd71.fS=119:=rfl
theorem zta :dd71.fd=fd119:=rfl
theorem zhn :dd71.slots=[1,2,5,9,10,11]:=rfl
theorem d25d :dd71.d=41000:=rfl
theorem zxo :dd71.dd=51000:=rfl
theorem znt :dd71.res=[.cell 10 false 1]:=rfl
theorem checkI_bad (h:2<=n){leaf root:Dg}{i N:Int}{f:Bool}{sh:Sh}{p:List Dg}(hb:N<1\/N>1099511627776\/i<0\/i>=N)(hf:leaf.length=16)(hr:root.length=16) :
  call gl tab n 71 [bAV leaf,i64 i,i64 N,.lst f sh (dgL p),bAV root] []=some (.bool false,[],[]):=by
 obtain⟨d,rfl⟩:=wH h
 have l1:=b16t hf
 have l2:=H.bytes_all leaf
 have r1:=b16t hr
 have r2:=H.bytes_all root
 rw[z2d (fd:=fd71) rfl]
 by_cases h1:N<1
 . simp(disch:=apply zq;omega) only[go_sem,simprocAttr,↓Nat.reduceEqDiff,xx,d25A,d25B,znu,zjn,zxn,zta,zhn,d25d,zxo,znt,zsq,zsp,↓out16_eq,H.out16_len,H.out16_all,H.out16_pl,hf,hr,l1,l2,r1,r2]
 by_cases h2:N>1099511627776
 . simp(disch:=apply zq;omega) only[go_sem,simprocAttr,↓Nat.reduceEqDiff,xx,d25A,d25B,znu,zjn,zxn,zta,zhn,d25d,zxo,znt,zsq,zsp,↓out16_eq,H.out16_len,H.out16_all,H.out16_pl,hf,hr,l1,l2,r1,r2]
 by_cases h3:i<0
 . simp(disch:=apply zq;omega) only[go_sem,simprocAttr,↓Nat.reduceEqDiff,xx,d25A,d25B,znu,zjn,zxn,zta,zhn,d25d,zxo,znt,zsq,zsp,↓out16_eq,H.out16_len,H.out16_all,H.out16_pl,hf,hr,l1,l2,r1,r2]
 have h4:i>=N:=by omega
 simp(disch:=apply zq;omega) only[go_sem,simprocAttr,↓Nat.reduceEqDiff,xx,d25A,d25B,znu,zjn,zxn,zta,zhn,d25d,zxo,znt,zsq,zsp,↓out16_eq,H.out16_len,H.out16_all,H.out16_pl,hf,hr,l1,l2,r1,r2]
theorem zyl {D:DfD}(hD:D.fd=fd119){cl:Cl}{k:Nat}{f:Bool}{sh:Sh}{p:List Dg}{s b:Bool} :
  dfS D gl cl k [.ptr 100000 [],.ptr 100001 []] [(100000,PS f sh p s),(100001,.fix .sc (.bool b))]=some (.tup [],[(100000,PS f sh p s),(100001,.fix .sc (.bool (b&& !s&&decide (p.length=0))))],[]):=by
 have hL:=dgL_length p
 rw[qfh,hD,if_pos (show(zjg fd119.pk&&mcLt fd119.body)=true from rfl)]
 cases b with
 | false=>simp(disch:=apply zq;omega) only[go_sem,simprocAttr,↓Nat.reduceEqDiff,xx,fd119,m119,hL]
 | true =>
   cases s with
   | true=>simp(disch:=apply zq;omega) only[go_sem,simprocAttr,↓Nat.reduceEqDiff,xx,fd119,m119,hL]
   | false =>
     by_cases h0:p.length=0
     . simp(disch:=apply zq;omega) only[go_sem,simprocAttr,↓Nat.reduceEqDiff,xx,fd119,m119,hL,h0]
     . simp(disch:=apply zq;omega) only[go_sem,simprocAttr,↓Nat.reduceEqDiff,xx,fd119,m119,hL,h0]
section
variable [Nonempty (GlK gl)]
theorem qfy (h:59<=n){leaf root:Dg}{i N:Nat}{f:Bool}{sh:Sh}{p:List Dg}(hN:1<=N)(hN2:N<=1099511627776)(hi:i<N)(hf:leaf.length=16)(hr:root.length=16)(ha:All16 p)(hl:p.length<=1000000)(hs:Sd p sh sB) :
  ∃hp,zs7 dd71 gl (call gl tab n) [i64 i,i64 N,.ptr 100000 [],.ptr 100001 [],.ptr 100002 [],.ptr 100003 []] [.ptr 100004 [],.ptr 100002 []]
   [(100000,.fix (.ar 16 .sc) (bAV leaf)),(100001,.fix (.ar 16 .sc) (bAV root)),(100002,.fix .sc (.bool false)),(100003,.fix .sc (.ptr 100004 [])),(100004,PS f sh p false)] =
   some (.bool (decide (p.length=dep i N/\cl nd z16 leaf i N p=root)),[(100000,.fix (.ar 16 .sc) (bAV leaf)),(100001,.fix (.ar 16 .sc) (bAV root)),(100002,.fix .sc (.bool (decide (p.length=dep i N/\cl nd z16 leaf i N p=root)))),(100003,.fix .sc (.ptr 100004 [])),(100004,hp)],[]):=by
 have l1:=b16t hf
 have l2:=H.bytes_all leaf
 have r1:=b16t hr
 have r2:=H.bytes_all root
 have h40:N<=2^40:=by
   have:(2:Nat)^40=1099511627776:=by decide
   omega
 obtain⟨f2,a⟩:=@z6n gl _ 40 n leaf i N f sh p false hf h40 hN hi (by omega) (by omega) ha hl hs
 have c1:=@z18 z16 leaf hf i N p
 have c2:=eqB c1 hr
 have c3:=H.bytes_all (cl nd z16 leaf i N p)
 have hL2:(lft p (dep i N)).length=p.length-dep i N:=by rw[lft,wA];omega
 have hS:shr p false (dep i N)=decide (p.length<dep i N):=by simp[shr]
 rw[hS]at a
 have hD:(decide (cl nd z16 leaf i N p=root)&& !(decide (p.length<dep i N))&&decide ((lft p (dep i N)).length=0))=decide (p.length=dep i N/\cl nd z16 leaf i N p=root):=by
  rw[hL2,Bool.eq_iff_iff]
  simp only[Bool.and_eq_true,decide_eq_true_eq,Bool.not_eq_true',decide_eq_false_iff_not]
  constructor
  . rintro ⟨⟨h1,h2⟩,h3⟩;exact⟨by omega,h1⟩
  . rintro ⟨h1,h2⟩;exact⟨⟨h2,by omega⟩,by omega⟩
 have st:=fun b=>@zyl gl dd71 zta (call gl tab n) 119 f2 sh (lft p (dep i N)) (decide (p.length<dep i N)) b
 refine⟨PS f2 sh (lft p (dep i N)) (decide (p.length<dep i N)),?_⟩
 generalize cl nd z16 leaf i N p=q at *
 have st1:=st (decide (q=root))
 rw[hD]at st1
 generalize decide (p.length=dep i N/\q=root)=b2 at *
 generalize hb:decide (q=root)=b at *
 generalize lft p (dep i N)=p2 at *
 generalize dep i N=k at *
 rw[z54]
 simp(disch:=apply zq;omega) only[go_sem,simprocAttr,↓Nat.reduceEqDiff,xx,d25A,d25B,znu,zjn,zxn,zta,zhn,d25d,zxo,znt,m71B,hf,hr,l1,l2,r1,r2,a,c1,c2,c3,zmd,st1]
theorem checkI_ok (h:60<=n){leaf root:Dg}{i N:Nat}{f:Bool}{sh:Sh}{p:List Dg}(hN:1<=N)(hN2:N<=1099511627776)(hi:i<N)(hf:leaf.length=16)(hr:root.length=16)(ha:All16 p)(hl:p.length<=1000000)(hs:Sd p sh sB) :
  call gl tab n 71 [bAV leaf,i64 i,i64 N,.lst f sh (dgL p),bAV root] []=some (.bool (decide (p.length=dep i N/\cl nd z16 leaf i N p=root)),[],[]):=by
 obtain⟨d,rfl⟩:=wH h
 have l1:=b16t hf
 have l2:=H.bytes_all leaf
 have r1:=b16t hr
 have r2:=H.bytes_all root
 obtain⟨hp,a⟩:=@qfy gl (d+59) _ (by omega) leaf root i N f sh p hN hN2 hi hf hr ha hl hs
 generalize decide (p.length=dep i N/\cl nd z16 leaf i N p=root)=b at *
 rw[z2d (fd:=fd71) rfl]
 simp(disch:=apply zq;omega) only[go_sem,simprocAttr,↓Nat.reduceEqDiff,xx,d25A,d25B,znu,zjn,zxn,zta,zhn,d25d,zxo,znt,zsq,zsp,z96,↓out16_eq,H.out16_len,H.out16_all,H.out16_pl,hf,hr,l1,l2,r1,r2,a]
end
end Go.Proofs.S44.M
