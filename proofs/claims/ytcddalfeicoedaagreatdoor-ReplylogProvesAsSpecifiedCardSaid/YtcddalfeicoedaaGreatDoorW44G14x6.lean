/-
  Chapter 3: roots. No condition.
-/
import Derived.Test.YtcddalfeicoedaaGreatDoorW44G13x6
set_option linter.all false
open Nat renaming exists_eq_add_of_le'->wA,le_refl->wB
open List renaming length_take->wC,length_drop->wD,length_singleton->wE,length_append->wF,length_eq_zero_iff->wG,getD_cons_zero->wH,map_cons->wI,map_nil->wJ
namespace Go.Proofs.S44.M
open Go Go.Ev Go.Proofs Go.Mk
open Go.Proofs.S44.H (GlK GlR)
variable {gl :Gl} {n:Nat}
def Sd {α:Type}(l:List α)(m s:Sh):Prop:=l=[]\/m=s
theorem zbh :sB.size=16:=rfl
def S40 (m:Nat)(i:Nat):St:=⟨[.set 3 (i64 ((2^i:Nat):Int)),.set 0 (i64 m)],[]⟩
theorem zlt (h:1<=n){m:Nat}(h2:2<=m)(hm:m<=4611686018427387904):call gl tab n 100 [i64 m] []=some (i64 (spl m),[],[]):=by
 obtain⟨d,rfl⟩:=wA h
 have hk:(m-1).log2<62:=(Nat.log2_lt (by omega)).2 (by omega)
 have hlo:=zcu h2
 have hge:=@zzc m
 rw[zad (fd:=z61) rfl]
 simp(disch:=apply zq;omega) only[go_sem,simprocAttr,↓Nat.reduceEqDiff,xx,z61,m100]
 rw[zai (S40 m) (m-1).log2 (by unfold LF;omega)]
 . rw[S40,show(2:Nat)^(m-1).log2=spl m from rfl]
   generalize spl m=x at *
   simp(disch:=apply zq;omega) only[go_sem,simprocAttr,↓Nat.reduceEqDiff,xx]
 . rw[S40];simp(disch:=apply zq;omega) only[go_sem,simprocAttr,↓Nat.reduceEqDiff,xx]
 . intro i hi
   have h3:2^(i+1)<=spl m:=Nat.pow_le_pow_right (by omega) hi
   have h4:(2:Nat)^(i+1)=2*2^i:=by rw[Nat.pow_succ];omega
   rw[S40,S40,h4]
   generalize spl m=y at *
   generalize 2^i=x at *
   rw[show((2*x:Nat):Int)=2*(x:Int) by omega]
   simp(disch:=apply zq;omega) only[go_sem,simprocAttr,↓Nat.reduceEqDiff,xx]
 . rw[S40,show(2:Nat)^(m-1).log2=spl m from rfl]
   generalize spl m=x at *
   simp(disch:=apply zq;omega) only[go_sem,simprocAttr,↓Nat.reduceEqDiff,xx]
theorem rt_len :∀{l:List Dg},All16 l->(rt nd em l).length=16
 | [],_=>by rw[zqr];exact zmw
 | [x],h=>by rw[zqq];exact h x (by simp)
 | x::y::l,h=>by rw[zls (by simp)];exact zfn _ _
section
variable [Nonempty (GlK gl)]
theorem root_at :∀(c:Nat) {n:Nat} (l:List Dg) (f:Bool) (sh:Sh),l.length<=c->8+c<=n->All16 l->l.length<2^60->Sd l sh sB->call gl tab n 55 [.lst f sh (dgL l)] []=some (bAV (rt nd em l),[],[]):=by
 intro c
 induction c with
 | zero =>
   intro n l f sh hc h ha hl hs
   obtain⟨d,rfl⟩:∃d,n=d+1:=⟨n-1,by omega⟩
   obtain rfl:l=[]:=wG.1 (by omega)
   have e:=@zvp gl d _ (by omega)
   have e1:=zmw
   have e2:=H.bytes_all em
   rw[zqr]
   generalize em=q at *
   rw[zad (fd:=fd55) rfl]
   simp(disch:=apply zq;omega) only[go_sem,simprocAttr,↓Nat.reduceEqDiff,xx,fd55,m55,↓out16_eq,H.out16_len,H.out16_all,H.out16_pl,dgL_nil,e,e1,e2,H.noImms_bytesAV]
 | succ c ih =>
   intro n l f sh hc h ha hl hs
   obtain⟨d,rfl⟩:∃d,n=d+1:=⟨n-1,by omega⟩
   have hL:=dgL_length l
   have hT:=zed l
   match l,hs with
   | [],hs =>
     have e:=@zvp gl d _ (by omega)
     have e1:=zmw
     have e2:=H.bytes_all em
     rw[zqr]
     generalize em=q at *
     rw[zad (fd:=fd55) rfl]
     simp(disch:=apply zq;omega) only[go_sem,simprocAttr,↓Nat.reduceEqDiff,xx,fd55,m55,↓out16_eq,H.out16_len,H.out16_all,H.out16_pl,dgL_nil,e,e1,e2,H.noImms_bytesAV]
   | [x],hs =>
     obtain rfl:sh=sB:=by rcases hs with hs|hs;cases hs;exact hs
     have e1:=ha.at (i:=0) (by simp)
     rw[zqq]
     have e2:=H.bytes_all x
     simp only[dgA,wH]at e1
     rw[zad (fd:=fd55) rfl]
     simp(disch:=apply zq;omega) only[go_sem,simprocAttr,↓Nat.reduceEqDiff,xx,fd55,m55,↓out16_eq,H.out16_len,H.out16_all,H.out16_pl,dgL,wI,wJ,zbh,e1,e2,H.noImms_bytesAV]
   | x::y::l,hs =>
     obtain rfl:sh=sB:=by rcases hs with hs|hs;cases hs;exact hs
     have h2:2<=(x::y::l).length:=by simp
     rw[zls h2]
     generalize (x::y::l)=l at *
     have hk:=zcu h2
     have hp:=zce l.length
     have k:=@zk0 gl d (by omega) l.length h2 (by omega)
     have a:=fun f'=>@ih d (l.take (spl l.length)) f' sB (by rw[wC];omega) (by omega) (ha.take _) (by rw[wC];omega) (Or.inr rfl)
     have b:=fun f'=>@ih d (l.drop (spl l.length)) f' sB (by rw[wD];omega) (by omega) (ha.drop _) (by rw[wD];omega) (Or.inr rfl)
     have ra:(rt nd em (l.take (spl l.length))).length=16:=rt_len (ha.take _)
     have rb:(rt nd em (l.drop (spl l.length))).length=16:=rt_len (ha.drop _)
     have e:=@zl9 gl d _ (by omega) _ _ ra rb
     have e1:=zfn (rt nd em (l.take (spl l.length))) (rt nd em (l.drop (spl l.length)))
     have e2:=H.bytes_all (nd (rt nd em (l.take (spl l.length))) (rt nd em (l.drop (spl l.length))))
     generalize nd (rt nd em (l.take (spl l.length))) (rt nd em (l.drop (spl l.length)))=q at *
     generalize rt nd em (l.take (spl l.length))=qa at *
     generalize rt nd em (l.drop (spl l.length))=qb at *
     simp only[<-zca]at a;simp only[<-zcq]at b
     generalize spl l.length=z at *
     generalize l.length=w at *
     rw[zad (fd:=fd55) rfl]
     simp(implicitDefEqProofs:=false) (disch:=apply zq;omega) only[go_sem,simprocAttr,↓Nat.reduceEqDiff,xx,fd55,m55,↓out16_eq,H.out16_len,H.out16_all,H.out16_pl,hL,hT,zbh,k,a,b,e,e1,e2,H.noImms_bytesAV]
end
section
variable [Nonempty (GlR gl)]
theorem rroot_at :∀(c:Nat) {n:Nat} (l:List Dg) (f:Bool) (sh:Sh),l.length<=c->8+c<=n->All16 l->l.length<2^60->Sd l sh sB->call gl tab n 51 [.lst f sh (dgL l)] []=some (bAV (rt nd em l),[],[]):=by
 intro c
 induction c with
 | zero =>
   intro n l f sh hc h ha hl hs
   obtain⟨d,rfl⟩:∃d,n=d+1:=⟨n-1,by omega⟩
   obtain rfl:l=[]:=wG.1 (by omega)
   have e:=@zqw gl d _ (by omega)
   have e1:=zmw
   have e2:=H.bytes_all em
   rw[zqr]
   generalize em=q at *
   rw[zad (fd:=fd51) rfl]
   simp(disch:=apply zq;omega) only[go_sem,simprocAttr,↓Nat.reduceEqDiff,xx,fd51,m51,↓out16_eq,H.out16_len,H.out16_all,H.out16_pl,dgL_nil,e,e1,e2,H.noImms_bytesAV]
 | succ c ih =>
   intro n l f sh hc h ha hl hs
   obtain⟨d,rfl⟩:∃d,n=d+1:=⟨n-1,by omega⟩
   have hL:=dgL_length l
   have hT:=zed l
   match l,hs with
   | [],hs =>
     have e:=@zqw gl d _ (by omega)
     have e1:=zmw
     have e2:=H.bytes_all em
     rw[zqr]
     generalize em=q at *
     rw[zad (fd:=fd51) rfl]
     simp(disch:=apply zq;omega) only[go_sem,simprocAttr,↓Nat.reduceEqDiff,xx,fd51,m51,↓out16_eq,H.out16_len,H.out16_all,H.out16_pl,dgL_nil,e,e1,e2,H.noImms_bytesAV]
   | [x],hs =>
     obtain rfl:sh=sB:=by rcases hs with hs|hs;cases hs;exact hs
     have e1:=ha.at (i:=0) (by simp)
     rw[zqq]
     have e2:=H.bytes_all x
     simp only[dgA,wH]at e1
     rw[zad (fd:=fd51) rfl]
     simp(disch:=apply zq;omega) only[go_sem,simprocAttr,↓Nat.reduceEqDiff,xx,fd51,m51,↓out16_eq,H.out16_len,H.out16_all,H.out16_pl,dgL,wI,wJ,zbh,e1,e2,H.noImms_bytesAV]
   | x::y::l,hs =>
     obtain rfl:sh=sB:=by rcases hs with hs|hs;cases hs;exact hs
     have h2:2<=(x::y::l).length:=by simp
     rw[zls h2]
     generalize (x::y::l)=l at *
     have hk:=zcu h2
     have hp:=zce l.length
     have k:=@zlt gl d (by omega) l.length h2 (by omega)
     have a:=fun f'=>@ih d (l.take (spl l.length)) f' sB (by rw[wC];omega) (by omega) (ha.take _) (by rw[wC];omega) (Or.inr rfl)
     have b:=fun f'=>@ih d (l.drop (spl l.length)) f' sB (by rw[wD];omega) (by omega) (ha.drop _) (by rw[wD];omega) (Or.inr rfl)
     have ra:(rt nd em (l.take (spl l.length))).length=16:=rt_len (ha.take _)
     have rb:(rt nd em (l.drop (spl l.length))).length=16:=rt_len (ha.drop _)
     have e:=@zuq gl d _ (by omega) _ _ ra rb
     have e1:=zfn (rt nd em (l.take (spl l.length))) (rt nd em (l.drop (spl l.length)))
     have e2:=H.bytes_all (nd (rt nd em (l.take (spl l.length))) (rt nd em (l.drop (spl l.length))))
     generalize nd (rt nd em (l.take (spl l.length))) (rt nd em (l.drop (spl l.length)))=q at *
     generalize rt nd em (l.take (spl l.length))=qa at *
     generalize rt nd em (l.drop (spl l.length))=qb at *
     simp only[<-zca]at a;simp only[<-zcq]at b
     generalize spl l.length=z at *
     generalize l.length=w at *
     rw[zad (fd:=fd51) rfl]
     simp(implicitDefEqProofs:=false) (disch:=apply zq;omega) only[go_sem,simprocAttr,↓Nat.reduceEqDiff,xx,fd51,m51,↓out16_eq,H.out16_len,H.out16_all,H.out16_pl,hL,hT,zbh,k,a,b,e,e1,e2,H.noImms_bytesAV]
end
end Go.Proofs.S44.M
namespace Go.Proofs.S44.M
open Go Go.Ev Go.Proofs Go.Mk
open Go.Proofs.S44.H (GlK GlR)
variable {gl :Gl} {n:Nat}
abbrev nilA :AV:=.lst true .sc []
abbrev F32 :OB:=.fix .sc (.fn 116 [.ptr 100000 [],.ptr 100001 []])
theorem incl_le :∀(c:Nat) (l:List Dg) (i:Nat),l.length<=c->(incl nd em l i).length<=l.length
 | 0,l,i,h=>by rw[ze6 (by omega)];simp
 | c+1,l,i,h=>by
   by_cases h2:2<=l.length
   . have hk:=zcu h2
     have hp:=zce l.length
     by_cases hi:i<spl l.length
     . rw[zmn h2 hi,wF,wE]
       have:=incl_le c (l.take (spl l.length)) i (by rw[wC];omega)
       rw[wC]at this;omega
     . rw[zmo h2 hi,wF,wE]
       have:=incl_le c (l.drop (spl l.length)) (i-spl l.length) (by rw[wD];omega)
       rw[wD]at this;omega
   . rw[ze6 (by omega)];simp
theorem zh2 (h:1<=n){l:List Dg}{f:Bool}(i:Nat)(h1:l.length=1) :
  call gl tab n 116 [.lst f sB (dgL l),i64 i,.ptr 100000 [],.ptr 100001 []] [(100000,F32),(100001,.fix .sc nilA)]=some (.tup [],[(100000,F32),(100001,.fix .sc nilA)],[]):=by
 obtain⟨d,rfl⟩:=wA h
 have hL:=dgL_length l
 rw[zau (fd:=zku) rfl]
 simp(disch:=apply zq;omega) only[go_sem,simprocAttr,↓Nat.reduceEqDiff,xx,zku,m116,hL,h1]
section
variable [Nonempty (GlK gl)]
theorem qap :∀(c:Nat) {n:Nat} (l:List Dg) (f:Bool) (i:Nat),l.length<=c->9+c<=n->All16 l->l.length<=1000000->i<l.length->2<=l.length ->
  call gl tab n 116 [.lst f sB (dgL l),i64 i,.ptr 100000 [],.ptr 100001 []] [(100000,F32),(100001,.fix .sc nilA)] =
   some (.tup [],[(100000,F32),(100001,.fix .sc (.sl 20000 [] 0 (incl nd em l i).length))],[.grow sB (dgL (incl nd em l i))]):=by
 intro c
 induction c with
 | zero=>intro n l f i hc h ha hl hi h2;omega
 | succ c ih =>
   intro n l f i hc h ha hl hi h2
   obtain⟨d,rfl⟩:∃d,n=d+1:=⟨n-1,by omega⟩
   have hL:=dgL_length l
   have hT:=zed l
   have hk:=zcu h2
   have hp:=zce l.length
   have k:=@zk0 gl d (by omega) l.length h2 (by omega)
   have na:=zba
   have l1:1<=LIM:=by unfold LIM;omega
   by_cases hlo:i<spl l.length
   . have b:=fun f'=>@root_at gl _ c d (l.drop (spl l.length)) f' sB (by rw[wD];omega) (by omega) (ha.drop _) (by rw[wD];omega) (Or.inr rfl)
     rw[zmn h2 hlo,zec,wF,wE]
     have rb:=rt_len (ha.drop (spl l.length))
     have qb:=H.bytes_all (rt nd em (l.drop (spl l.length)))
     have tl:(l.take (spl l.length)).length=spl l.length:=by rw[wC];omega
     by_cases h3:2<=spl l.length
     . have a:=fun f'=>@ih d (l.take (spl l.length)) f' i (by omega) (by omega) (ha.take _) (by omega) (by omega) (by omega)
       have hN:=incl_le _ (l.take (spl l.length)) i (wB _)
       have hM:=dgL_length (incl nd em (l.take (spl l.length)) i)
       simp only[<-zca]at a
       simp only[<-zcq]at b
       generalize rt nd em (l.drop (spl l.length))=r at *
       generalize incl nd em (l.take (spl l.length)) i=p at *
       rw[tl]at hN
       have hlim:p.length+1<=LIM:=by unfold LIM;omega
       generalize spl l.length=z at *
       generalize l.length=w at *
       rw[zau (fd:=zku) rfl]
       simp(implicitDefEqProofs:=false) (disch:=apply zq;omega) only[go_sem,simprocAttr,↓Nat.reduceEqDiff,xx,zku,m116,↓out16_eq,H.out16_len,H.out16_all,H.out16_pl,hL,hT,hM,zbh,k,a,b,rb,qb,na,H.noImms_bytesAV]
     . have a:=fun f'=>@zh2 gl d (by omega) (l.take (spl l.length)) f' i (by omega)
       rw[ze6 (l:=l.take (spl l.length)) (by omega)]
       simp only[<-zca]at a
       simp only[<-zcq]at b
       generalize rt nd em (l.drop (spl l.length))=r at *
       generalize spl l.length=z at *
       generalize l.length=w at *
       rw[zau (fd:=zku) rfl]
       simp(implicitDefEqProofs:=false) (disch:=apply zq;omega) only[go_sem,simprocAttr,↓Nat.reduceEqDiff,xx,zku,m116,↓out16_eq,H.out16_len,H.out16_all,H.out16_pl,hL,hT,zbh,k,a,b,rb,qb,na,H.noImms_bytesAV,dgL_nil]
   . have b:=fun f'=>@root_at gl _ c d (l.take (spl l.length)) f' sB (by rw[wC];omega) (by omega) (ha.take _) (by rw[wC];omega) (Or.inr rfl)
     rw[zmo h2 hlo,zec,wF,wE]
     have rb:=rt_len (ha.take (spl l.length))
     have qb:=H.bytes_all (rt nd em (l.take (spl l.length)))
     have tl:(l.drop (spl l.length)).length=l.length-spl l.length:=by rw[wD]
     have ei:(i:Int)-(spl l.length:Int)=((i-spl l.length:Nat):Int):=by omega
     by_cases h3:2<=l.length-spl l.length
     . have a:=fun f'=>@ih d (l.drop (spl l.length)) f' (i-spl l.length) (by omega) (by omega) (ha.drop _) (by omega) (by omega) (by omega)
       have hN:=incl_le _ (l.drop (spl l.length)) (i-spl l.length) (wB _)
       have hM:=dgL_length (incl nd em (l.drop (spl l.length)) (i-spl l.length))
       simp only[<-zcq]at a
       simp only[<-zca]at b
       generalize rt nd em (l.take (spl l.length))=r at *
       generalize incl nd em (l.drop (spl l.length)) (i-spl l.length)=p at *
       rw[tl]at hN
       have hlim:p.length+1<=LIM:=by unfold LIM;omega
       generalize spl l.length=z at *
       generalize l.length=w at *
       rw[zau (fd:=zku) rfl]
       simp(implicitDefEqProofs:=false) (disch:=apply zq;omega) only[go_sem,simprocAttr,↓Nat.reduceEqDiff,xx,zku,m116,↓out16_eq,H.out16_len,H.out16_all,H.out16_pl,hL,hT,hM,zbh,k,a,b,rb,qb,na,H.noImms_bytesAV,ei]
     . have a:=fun f'=>@zh2 gl d (by omega) (l.drop (spl l.length)) f' (i-spl l.length) (by omega)
       rw[ze6 (l:=l.drop (spl l.length)) (by omega)]
       simp only[<-zcq]at a
       simp only[<-zca]at b
       generalize rt nd em (l.take (spl l.length))=r at *
       generalize spl l.length=z at *
       generalize l.length=w at *
       rw[zau (fd:=zku) rfl]
       simp(implicitDefEqProofs:=false) (disch:=apply zq;omega) only[go_sem,simprocAttr,↓Nat.reduceEqDiff,xx,zku,m116,↓out16_eq,H.out16_len,H.out16_all,H.out16_pl,hL,hT,zbh,k,a,b,rb,qb,na,H.noImms_bytesAV,dgL_nil,ei]
end
def ansL (p:List Dg):AV:=if p=[]then nilA else .lst false sB (dgL p)
end Go.Proofs.S44.M
namespace Go.Proofs.S44.M
open Go Go.Ev Go.Proofs Go.Mk
open Go.Proofs.S44.H (GlK GlR)
variable {gl :Gl} {n:Nat}
theorem ansL_eq (p:List Dg):∃f sh,ansL p= .lst f sh (dgL p)/\Sd p sh sB:=by
 by_cases h:p=[]
 . subst h;exact⟨true,.sc,rfl,Or.inl rfl⟩
 . exact⟨false,sB,by rw[ansL,if_neg h],Or.inr rfl⟩
theorem zi3 {k:Nat}{c:List AV}:(AV.fn k c).scalar=true:=rfl
theorem zwa :ansL []=nilA:=rfl
theorem zlc (p:List Dg)(d:Dg):ansL (p++[d])= .lst false sB (dgL p++[.agg (zac d)]):=by rw[ansL,if_neg (by simp),zec]
section
variable [Nonempty (GlK gl)]
theorem inclusion_ok (h:1000<=n){l:List Dg}{f:Bool}{sh:Sh}{i:Nat}(ha:All16 l)(hl:l.length<=900)(hi:i<l.length)(hs:Sd l sh sB) :
  call gl tab n 67 [.lst f sh (dgL l),i64 i] []=some (.tup [.sl 20000 [] 0 (incl nd em l i).length,i64 0],[],[.grow sB (dgL (incl nd em l i))]):=by
 obtain⟨d,rfl⟩:=wA h
 have hL:=dgL_length l
 obtain rfl:sh=sB:=by rcases hs with hs|hs;subst hs;simp at hi;exact hs
 by_cases h2:2<=l.length
 . have a:=@qap gl _ l.length (d+999) l f i (wB _) (by omega) ha (by omega) hi h2
   have hN:incl nd em l i≠[]:=by
    by_cases hlo:i<spl l.length
    . rw[zmn h2 hlo];simp
    . rw[zmo h2 hlo];simp
   have hM:=dgL_length (incl nd em l i)
   have hT:=zed (incl nd em l i)
   have na:=zba (incl nd em l i)
   generalize incl nd em l i=p at *
   generalize l.length=w at *
   rw[zad (fd:=fd67) rfl]
   simp(disch:=apply zq;omega) only[go_sem,simprocAttr,↓Nat.reduceEqDiff,xx,fd67,m67,hL,hM,hT,a,na,zi3]
 . have a:=@zh2 gl (d+999) (by omega) l f i (by omega)
   rw[ze6 (by omega),List.length_nil,dgL_nil]
   generalize l.length=w at *
   rw[zad (fd:=fd67) rfl]
   simp(disch:=apply zq;omega) only[go_sem,simprocAttr,↓Nat.reduceEqDiff,xx,fd67,m67,hL,a,zi3]
end
theorem with_at (h:1<=n){p:List Dg}{d:Dg}{f:Bool}{sh:Sh}(hp:p.length<=1000000)(hd:d.length=16)(hs:Sd p sh sB) :
  call gl tab n 160 [.lst f sh (dgL p),bAV d] []=some (.lst false sB (dgL (p++[d])),[],[]):=by
 obtain⟨e,rfl⟩:=wA h
 have hL:=dgL_length p
 have hT:=zed p
 have na:=zba p
 have qb:=H.bytes_all d
 have nd:=zba (p++[d])
 have d1:=b16t hd
 rw[zec]at nd ⊢
 have hT2:List.take (p.length+1) (dgL p++[AV.agg (zac d)])=dgL p++[AV.agg (zac d)]:=List.take_of_length_le (by simp[hL])
 have hlim:p.length+1<=LIM:=by unfold LIM;omega
 have hlim0:p.length<=LIM:=by omega
 have hLIM0:1<=LIM:=by omega
 rw[zad (fd:=z2a) rfl]
 rcases hs with rfl|rfl
 . simp(disch:=apply zq;omega) only[go_sem,simprocAttr,↓Nat.reduceEqDiff,xx,z2a,m160,↓out16_eq,H.out16_len,H.out16_all,H.out16_pl,dgL_nil,hL,hd,qb,nd,d1,H.noImms_bytesAV]
 . generalize p.length=w at *
   simp(disch:=apply zq;omega) only[go_sem,simprocAttr,↓Nat.reduceEqDiff,xx,z2a,m160,↓out16_eq,H.out16_len,H.out16_all,H.out16_pl,hL,hT,hT2,hd,qb,na,nd,d1,zbh,H.noImms_bytesAV]
section
variable [Nonempty (GlR gl)]
theorem z4c :∀(c:Nat) {n:Nat} (l:List Dg) (f:Bool) (i:Nat),l.length<=c->9+c<=n->All16 l->l.length<=1000000->i<l.length ->
  call gl tab n 137 [.lst f sB (dgL l),i64 i] []=some (ansL (incl nd em l i),[],[]):=by
 intro c
 induction c with
 | zero=>intro n l f i hc h ha hl hi;omega
 | succ c ih =>
   intro n l f i hc h ha hl hi
   obtain⟨d,rfl⟩:∃d,n=d+1:=⟨n-1,by omega⟩
   have hL:=dgL_length l
   have hT:=zed l
   by_cases h2:2<=l.length
   . have hk:=zcu h2
     have hp:=zce l.length
     have k:=@zlt gl d (by omega) l.length h2 (by omega)
     have tl:(l.take (spl l.length)).length=spl l.length:=by rw[wC];omega
     have td:(l.drop (spl l.length)).length=l.length-spl l.length:=by rw[wD]
     by_cases hlo:i<spl l.length
     . have b:=fun f'=>@rroot_at gl _ c d (l.drop (spl l.length)) f' sB (by omega) (by omega) (ha.drop _) (by omega) (Or.inr rfl)
       rw[zmn h2 hlo,zlc,<-zec]
       have rb:=rt_len (ha.drop (spl l.length))
       have a:=fun f'=>@ih d (l.take (spl l.length)) f' i (by omega) (by omega) (ha.take _) (by omega) (by omega)
       have hN:=incl_le _ (l.take (spl l.length)) i (wB _)
       obtain⟨f1,sh1,e1,e2⟩:=ansL_eq (incl nd em (l.take (spl l.length)) i)
       have hw:=@with_at gl d (by omega) (incl nd em (l.take (spl l.length)) i) (rt nd em (l.drop (spl l.length))) f1 sh1 (by omega) rb e2
       have na:=zba (incl nd em (l.take (spl l.length)) i++[rt nd em (l.drop (spl l.length))])
       rw[e1]at a
       simp only[<-zca]at a
       simp only[<-zcq]at b
       generalize dgL (incl nd em (l.take (spl l.length)) i++[rt nd em (l.drop (spl l.length))])=y at *
       generalize rt nd em (l.drop (spl l.length))=r at *
       generalize incl nd em (l.take (spl l.length)) i=p at *
       generalize spl l.length=z at *
       generalize l.length=w at *
       rw[zad (fd:=zry) rfl]
       simp(implicitDefEqProofs:=false) (disch:=apply zq;omega) only[go_sem,simprocAttr,↓Nat.reduceEqDiff,xx,zry,m137,hL,hT,zbh,k,a,b,hw,na]
     . have b:=fun f'=>@rroot_at gl _ c d (l.take (spl l.length)) f' sB (by omega) (by omega) (ha.take _) (by omega) (Or.inr rfl)
       rw[zmo h2 hlo,zlc,<-zec]
       have rb:=rt_len (ha.take (spl l.length))
       have ei:(i:Int)-(spl l.length:Int)=((i-spl l.length:Nat):Int):=by omega
       have a:=fun f'=>@ih d (l.drop (spl l.length)) f' (i-spl l.length) (by omega) (by omega) (ha.drop _) (by omega) (by omega)
       have hN:=incl_le _ (l.drop (spl l.length)) (i-spl l.length) (wB _)
       obtain⟨f1,sh1,e1,e2⟩:=ansL_eq (incl nd em (l.drop (spl l.length)) (i-spl l.length))
       have hw:=@with_at gl d (by omega) (incl nd em (l.drop (spl l.length)) (i-spl l.length)) (rt nd em (l.take (spl l.length))) f1 sh1 (by omega) rb e2
       have na:=zba (incl nd em (l.drop (spl l.length)) (i-spl l.length)++[rt nd em (l.take (spl l.length))])
       rw[e1]at a
       simp only[<-zcq]at a
       simp only[<-zca]at b
       generalize dgL (incl nd em (l.drop (spl l.length)) (i-spl l.length)++[rt nd em (l.take (spl l.length))])=y at *
       generalize rt nd em (l.take (spl l.length))=r at *
       generalize incl nd em (l.drop (spl l.length)) (i-spl l.length)=p at *
       generalize spl l.length=z at *
       generalize l.length=w at *
       rw[zad (fd:=zry) rfl]
       simp(implicitDefEqProofs:=false) (disch:=apply zq;omega) only[go_sem,simprocAttr,↓Nat.reduceEqDiff,xx,zry,m137,hL,hT,zbh,k,a,b,hw,na,ei]
   . rw[ze6 (by omega),zwa]
     have h1:l.length=1:=by omega
     rw[zad (fd:=zry) rfl]
     simp(disch:=apply zq;omega) only[go_sem,simprocAttr,↓Nat.reduceEqDiff,xx,zry,m137,hL,h1]
theorem rinclusion_ok (h:1000<=n){l:List Dg}{f:Bool}{sh:Sh}{i:Nat}(ha:All16 l)(hl:l.length<=900)(hi:i<l.length)(hs:Sd l sh sB) :
  call gl tab n 91 [.lst f sh (dgL l),i64 i] []=some (.agg [ansL (incl nd em l i),i64 0],[],[]):=by
 obtain⟨d,rfl⟩:=wA h
 have hL:=dgL_length l
 obtain rfl:sh=sB:=by rcases hs with hs|hs;subst hs;simp at hi;exact hs
 have a:=@z4c gl _ l.length (d+999) l f i (wB _) (by omega) ha (by omega) hi
 obtain⟨f1,sh1,e1,e2⟩:=ansL_eq (incl nd em l i)
 have na:=zba (incl nd em l i)
 rw[e1]at a ⊢
 generalize incl nd em l i=p at *
 generalize l.length=w at *
 rw[zad (fd:=fd91) rfl]
 simp(disch:=apply zq;omega) only[go_sem,simprocAttr,↓Nat.reduceEqDiff,xx,fd91,m91,hL,a,na]
end
end Go.Proofs.S44.M
