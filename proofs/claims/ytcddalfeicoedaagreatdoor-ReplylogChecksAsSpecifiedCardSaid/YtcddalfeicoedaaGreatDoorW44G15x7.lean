/-
  Chapter 3: roots. No condition.
-/
import Derived.Test.YtcddalfeicoedaaGreatDoorW44G14x7
set_option linter.unusedVariables false
set_option linter.unusedSimpArgs false
set_option linter.unusedSectionVars false
namespace Go.Proofs.S44.M
open Go Go.Ev Go.Proofs Go.Mk
open Go.Proofs.S44.H (GlK GlR)
variable {gl :Gl} {n:Nat}
def Sd {α:Type}(l:List α)(m s:Sh):Prop:=l=[]\/m=s
theorem zcx :sB.size=16:=rfl
def S40 (m:Nat)(i:Nat):St:=⟨[.set 3 (i64 ((2^i:Nat):Int)),.set 0 (i64 m)],[]⟩
theorem rsplit_at (h:1<=n){m:Nat}(h2:2<=m)(hm:m<=4611686018427387904):call gl tab n 100 [i64 m] []=some (i64 (spl m),[],[]):=by
 obtain⟨d,rfl⟩:=Nat.exists_eq_add_of_le' h
 have hk:(m-1).log2<62:=(Nat.log2_lt (by omega)).2 (by omega)
 have hlo:=zdi h2
 have hge:=@spl_ge m
 rw[zad (fd:=fd100) rfl]
 simp(disch:=(fail_if_success intro _);omega) only[go_sem,simprocAttr,↓Nat.reduceEqDiff,xx,fd100,m100]
 rw[zal (S40 m) (m-1).log2 (by unfold LF;omega)]
 . rw[S40,show(2:Nat)^(m-1).log2=spl m from rfl]
   generalize spl m=x at *
   simp(disch:=(fail_if_success intro _);omega) only[go_sem,simprocAttr,↓Nat.reduceEqDiff,xx]
 . rw[S40];simp(disch:=(fail_if_success intro _);omega) only[go_sem,simprocAttr,↓Nat.reduceEqDiff,xx]
 . intro i hi
   have h3:2^(i+1)<=spl m:=Nat.pow_le_pow_right (by omega) hi
   have h4:(2:Nat)^(i+1)=2*2^i:=by rw[Nat.pow_succ];omega
   rw[S40,S40,h4]
   generalize spl m=y at *
   generalize 2^i=x at *
   rw[show((2*x:Nat):Int)=2*(x:Int) by omega]
   simp(disch:=(fail_if_success intro _);omega) only[go_sem,simprocAttr,↓Nat.reduceEqDiff,xx]
 . rw[S40,show(2:Nat)^(m-1).log2=spl m from rfl]
   generalize spl m=x at *
   simp(disch:=(fail_if_success intro _);omega) only[go_sem,simprocAttr,↓Nat.reduceEqDiff,xx]
theorem rt_len :∀{l:List Dg},All16 l->(rt nd em l).length=16
 | [],_=>by rw[rt_nil];exact em_len
 | [x],h=>by rw[rt_one];exact h x (by simp)
 | x::y::l,h=>by rw[rt_two (by simp)];exact zcv _ _
section
variable [Nonempty (GlK gl)]
theorem root_at :∀(c:Nat) {n:Nat} (l:List Dg) (f:Bool) (sh:Sh),l.length<=c->8+c<=n->All16 l->l.length<2^60->Sd l sh sB->call gl tab n 55 [.lst f sh (dgL l)] []=some (bAV (rt nd em l),[],[]):=by
 intro c
 induction c with
 | zero =>
   intro n l f sh hc h ha hl hs
   obtain⟨d,rfl⟩:∃d,n=d+1:=⟨n-1,by omega⟩
   obtain rfl:l=[]:=List.length_eq_zero_iff.1 (by omega)
   have e:=@empty_at gl d _ (by omega)
   have e1:=em_len
   have e2:=H.bytes_all em
   rw[rt_nil]
   generalize em=q at *
   rw[zad (fd:=fd55) rfl]
   simp(disch:=(fail_if_success intro _);omega) only[go_sem,simprocAttr,↓Nat.reduceEqDiff,xx,fd55,m55,↓out16_eq,H.oo,zg1,e,e1,e2,H.noImms_bytesAV]
 | succ c ih =>
   intro n l f sh hc h ha hl hs
   obtain⟨d,rfl⟩:∃d,n=d+1:=⟨n-1,by omega⟩
   have hL:=dgL_length l
   have hT:=dgL_all l
   match l,hs with
   | [],hs =>
     have e:=@empty_at gl d _ (by omega)
     have e1:=em_len
     have e2:=H.bytes_all em
     rw[rt_nil]
     generalize em=q at *
     rw[zad (fd:=fd55) rfl]
     simp(disch:=(fail_if_success intro _);omega) only[go_sem,simprocAttr,↓Nat.reduceEqDiff,xx,fd55,m55,↓out16_eq,H.oo,zg1,e,e1,e2,H.noImms_bytesAV]
   | [x],hs =>
     obtain rfl:sh=sB:=by rcases hs with hs|hs;cases hs;exact hs
     have e1:=ha.at (i:=0) (by simp)
     rw[rt_one]
     have e2:=H.bytes_all x
     simp only[dgA,List.getD_cons_zero]at e1
     rw[zad (fd:=fd55) rfl]
     simp(disch:=(fail_if_success intro _);omega) only[go_sem,simprocAttr,↓Nat.reduceEqDiff,xx,fd55,m55,↓out16_eq,H.oo,dgL,List.map_cons,List.map_nil,zcx,e1,e2,H.noImms_bytesAV]
   | x::y::l,hs =>
     obtain rfl:sh=sB:=by rcases hs with hs|hs;cases hs;exact hs
     have h2:2<=(x::y::l).length:=by simp
     rw[rt_two h2]
     generalize (x::y::l)=l at *
     have hk:=zdi h2
     have hp:=zc4 l.length
     have k:=@zks gl d (by omega) l.length h2 (by omega)
     have a:=fun f'=>@ih d (l.take (spl l.length)) f' sB (by rw[List.length_take];omega) (by omega) (ha.take _) (by rw[List.length_take];omega) (Or.inr rfl)
     have b:=fun f'=>@ih d (l.drop (spl l.length)) f' sB (by rw[List.length_drop];omega) (by omega) (ha.drop _) (by rw[List.length_drop];omega) (Or.inr rfl)
     have ra:(rt nd em (l.take (spl l.length))).length=16:=rt_len (ha.take _)
     have rb:(rt nd em (l.drop (spl l.length))).length=16:=rt_len (ha.drop _)
     have e:=@zgq gl d _ (by omega) _ _ ra rb
     have e1:=zcv (rt nd em (l.take (spl l.length))) (rt nd em (l.drop (spl l.length)))
     have e2:=H.bytes_all (nd (rt nd em (l.take (spl l.length))) (rt nd em (l.drop (spl l.length))))
     generalize nd (rt nd em (l.take (spl l.length))) (rt nd em (l.drop (spl l.length)))=q at *
     generalize rt nd em (l.take (spl l.length))=qa at *
     generalize rt nd em (l.drop (spl l.length))=qb at *
     simp only[<-zga]at a;simp only[<-zhs]at b
     generalize spl l.length=z at *
     generalize l.length=w at *
     rw[zad (fd:=fd55) rfl]
     simp(implicitDefEqProofs:=false) (disch:=(fail_if_success intro _);omega) only[go_sem,simprocAttr,↓Nat.reduceEqDiff,xx,fd55,m55,↓out16_eq,H.oo,hL,hT,zcx,k,a,b,e,e1,e2,H.noImms_bytesAV]
end
section
variable [Nonempty (GlR gl)]
end
end Go.Proofs.S44.M
namespace Go.Proofs.S44.M
open Go Go.Ev Go.Proofs Go.Mk
open Go.Proofs.S44.H (GlK GlR)
variable {gl :Gl} {n:Nat}
abbrev nilA :AV:=.lst true .sc []
abbrev F32 :OB:=.fix .sc (.fn 116 [.ptr 100000 [],.ptr 100001 []])
theorem incl_le :∀(c:Nat) (l:List Dg) (i:Nat),l.length<=c->(incl nd em l i).length<=l.length
 | 0,l,i,h=>by rw[ziw (by omega)];simp
 | c+1,l,i,h=>by
   by_cases h2:2<=l.length
   . have hk:=zdi h2
     have hp:=zc4 l.length
     by_cases hi:i<spl l.length
     . rw[incl_lo h2 hi,List.length_append,List.length_singleton]
       have:=incl_le c (l.take (spl l.length)) i (by rw[List.length_take];omega)
       rw[List.length_take]at this;omega
     . rw[incl_hi h2 hi,List.length_append,List.length_singleton]
       have:=incl_le c (l.drop (spl l.length)) (i-spl l.length) (by rw[List.length_drop];omega)
       rw[List.length_drop]at this;omega
   . rw[ziw (by omega)];simp
theorem zh6 (h:1<=n){l:List Dg}{f:Bool}(i:Nat)(h1:l.length=1) :
  call gl tab n 116 [.lst f sB (dgL l),i64 i,.ptr 100000 [],.ptr 100001 []] [(100000,F32),(100001,.fix .sc nilA)]=some (.tup [],[(100000,F32),(100001,.fix .sc nilA)],[]):=by
 obtain⟨d,rfl⟩:=Nat.exists_eq_add_of_le' h
 have hL:=dgL_length l
 rw[zax (fd:=zkm) rfl]
 simp(disch:=(fail_if_success intro _);omega) only[go_sem,simprocAttr,↓Nat.reduceEqDiff,xx,zkm,m116,hL,h1]
section
variable [Nonempty (GlK gl)]
theorem prove32 :∀(c:Nat) {n:Nat} (l:List Dg) (f:Bool) (i:Nat),l.length<=c->9+c<=n->All16 l->l.length<=1000000->i<l.length->2<=l.length ->
  call gl tab n 116 [.lst f sB (dgL l),i64 i,.ptr 100000 [],.ptr 100001 []] [(100000,F32),(100001,.fix .sc nilA)] =
   some (.tup [],[(100000,F32),(100001,.fix .sc (.sl 20000 [] 0 (incl nd em l i).length))],[.grow sB (dgL (incl nd em l i))]):=by
 intro c
 induction c with
 | zero=>intro n l f i hc h ha hl hi h2;omega
 | succ c ih =>
   intro n l f i hc h ha hl hi h2
   obtain⟨d,rfl⟩:∃d,n=d+1:=⟨n-1,by omega⟩
   have hL:=dgL_length l
   have hT:=dgL_all l
   have hk:=zdi h2
   have hp:=zc4 l.length
   have k:=@zks gl d (by omega) l.length h2 (by omega)
   have na:=zhr
   have l1:1<=LIM:=by unfold LIM;omega
   by_cases hlo:i<spl l.length
   . have b:=fun f'=>@root_at gl _ c d (l.drop (spl l.length)) f' sB (by rw[List.length_drop];omega) (by omega) (ha.drop _) (by rw[List.length_drop];omega) (Or.inr rfl)
     rw[incl_lo h2 hlo,dgL_app,List.length_append,List.length_singleton]
     have rb:=rt_len (ha.drop (spl l.length))
     have qb:=H.bytes_all (rt nd em (l.drop (spl l.length)))
     have tl:(l.take (spl l.length)).length=spl l.length:=by rw[List.length_take];omega
     by_cases h3:2<=spl l.length
     . have a:=fun f'=>@ih d (l.take (spl l.length)) f' i (by omega) (by omega) (ha.take _) (by omega) (by omega) (by omega)
       have hN:=incl_le _ (l.take (spl l.length)) i (Nat.le_refl _)
       have hM:=dgL_length (incl nd em (l.take (spl l.length)) i)
       simp only[<-zga]at a
       simp only[<-zhs]at b
       generalize rt nd em (l.drop (spl l.length))=r at *
       generalize incl nd em (l.take (spl l.length)) i=p at *
       rw[tl]at hN
       have hlim:p.length+1<=LIM:=by unfold LIM;omega
       generalize spl l.length=z at *
       generalize l.length=w at *
       rw[zax (fd:=zkm) rfl]
       simp(implicitDefEqProofs:=false) (disch:=(fail_if_success intro _);omega) only[go_sem,simprocAttr,↓Nat.reduceEqDiff,xx,zkm,m116,↓out16_eq,H.oo,hL,hT,hM,zcx,k,a,b,rb,qb,na,H.noImms_bytesAV]
     . have a:=fun f'=>@zh6 gl d (by omega) (l.take (spl l.length)) f' i (by omega)
       rw[ziw (l:=l.take (spl l.length)) (by omega)]
       simp only[<-zga]at a
       simp only[<-zhs]at b
       generalize rt nd em (l.drop (spl l.length))=r at *
       generalize spl l.length=z at *
       generalize l.length=w at *
       rw[zax (fd:=zkm) rfl]
       simp(implicitDefEqProofs:=false) (disch:=(fail_if_success intro _);omega) only[go_sem,simprocAttr,↓Nat.reduceEqDiff,xx,zkm,m116,↓out16_eq,H.oo,hL,hT,zcx,k,a,b,rb,qb,na,H.noImms_bytesAV,zg1]
   . have b:=fun f'=>@root_at gl _ c d (l.take (spl l.length)) f' sB (by rw[List.length_take];omega) (by omega) (ha.take _) (by rw[List.length_take];omega) (Or.inr rfl)
     rw[incl_hi h2 hlo,dgL_app,List.length_append,List.length_singleton]
     have rb:=rt_len (ha.take (spl l.length))
     have qb:=H.bytes_all (rt nd em (l.take (spl l.length)))
     have tl:(l.drop (spl l.length)).length=l.length-spl l.length:=by rw[List.length_drop]
     have ei:(i:Int)-(spl l.length:Int)=((i-spl l.length:Nat):Int):=by omega
     by_cases h3:2<=l.length-spl l.length
     . have a:=fun f'=>@ih d (l.drop (spl l.length)) f' (i-spl l.length) (by omega) (by omega) (ha.drop _) (by omega) (by omega) (by omega)
       have hN:=incl_le _ (l.drop (spl l.length)) (i-spl l.length) (Nat.le_refl _)
       have hM:=dgL_length (incl nd em (l.drop (spl l.length)) (i-spl l.length))
       simp only[<-zhs]at a
       simp only[<-zga]at b
       generalize rt nd em (l.take (spl l.length))=r at *
       generalize incl nd em (l.drop (spl l.length)) (i-spl l.length)=p at *
       rw[tl]at hN
       have hlim:p.length+1<=LIM:=by unfold LIM;omega
       generalize spl l.length=z at *
       generalize l.length=w at *
       rw[zax (fd:=zkm) rfl]
       simp(implicitDefEqProofs:=false) (disch:=(fail_if_success intro _);omega) only[go_sem,simprocAttr,↓Nat.reduceEqDiff,xx,zkm,m116,↓out16_eq,H.oo,hL,hT,hM,zcx,k,a,b,rb,qb,na,H.noImms_bytesAV,ei]
     . have a:=fun f'=>@zh6 gl d (by omega) (l.drop (spl l.length)) f' (i-spl l.length) (by omega)
       rw[ziw (l:=l.drop (spl l.length)) (by omega)]
       simp only[<-zhs]at a
       simp only[<-zga]at b
       generalize rt nd em (l.take (spl l.length))=r at *
       generalize spl l.length=z at *
       generalize l.length=w at *
       rw[zax (fd:=zkm) rfl]
       simp(implicitDefEqProofs:=false) (disch:=(fail_if_success intro _);omega) only[go_sem,simprocAttr,↓Nat.reduceEqDiff,xx,zkm,m116,↓out16_eq,H.oo,hL,hT,zcx,k,a,b,rb,qb,na,H.noImms_bytesAV,zg1,ei]
end
end Go.Proofs.S44.M
namespace Go.Proofs.S44.M
open Go Go.Ev Go.Proofs Go.Mk
open Go.Proofs.S44.H (GlK GlR)
variable {gl :Gl} {n:Nat}
theorem zfn {k:Nat}{c:List AV}:(AV.fn k c).scalar=true:=rfl
section
variable [Nonempty (GlK gl)]
theorem inclusion_ok (h:1000<=n){l:List Dg}{f:Bool}{sh:Sh}{i:Nat}(ha:All16 l)(hl:l.length<=900)(hi:i<l.length)(hs:Sd l sh sB) :
  call gl tab n 67 [.lst f sh (dgL l),i64 i] []=some (.tup [.sl 20000 [] 0 (incl nd em l i).length,i64 0],[],[.grow sB (dgL (incl nd em l i))]):=by
 obtain⟨d,rfl⟩:=Nat.exists_eq_add_of_le' h
 have hL:=dgL_length l
 obtain rfl:sh=sB:=by rcases hs with hs|hs;subst hs;simp at hi;exact hs
 by_cases h2:2<=l.length
 . have a:=@prove32 gl _ l.length (d+999) l f i (Nat.le_refl _) (by omega) ha (by omega) hi h2
   have hN:incl nd em l i≠[]:=by
    by_cases hlo:i<spl l.length
    . rw[incl_lo h2 hlo];simp
    . rw[incl_hi h2 hlo];simp
   have hM:=dgL_length (incl nd em l i)
   have hT:=dgL_all (incl nd em l i)
   have na:=zhr (incl nd em l i)
   generalize incl nd em l i=p at *
   generalize l.length=w at *
   rw[zad (fd:=fd67) rfl]
   simp(disch:=(fail_if_success intro _);omega) only[go_sem,simprocAttr,↓Nat.reduceEqDiff,xx,fd67,m67,hL,hM,hT,a,na,zfn]
 . have a:=@zh6 gl (d+999) (by omega) l f i (by omega)
   rw[ziw (by omega),List.length_nil,zg1]
   generalize l.length=w at *
   rw[zad (fd:=fd67) rfl]
   simp(disch:=(fail_if_success intro _);omega) only[go_sem,simprocAttr,↓Nat.reduceEqDiff,xx,fd67,m67,hL,a,zfn]
end
section
variable [Nonempty (GlR gl)]
end
end Go.Proofs.S44.M
namespace Go.Proofs.S44.M
open Go Go.Ev Go.Proofs Go.Mk
open Go.Proofs.S44.H (GlK GlR)
variable {gl :Gl} {n:Nat}
abbrev sP :Sh:=.st [.sc,.sc]
abbrev PS (f:Bool)(sh:Sh)(p:List Dg)(s:Bool):OB:=.fix sP (.agg [.lst f sh (dgL p),.bool s])
theorem ze2 (p:List Dg):List.take (p.length-1) (dgL p)=dgL p.dropLast:=by rw[zga,List.dropLast_eq_take]
theorem zeq {p:List Dg}(z:Dg)(h:p≠[]):dgA p (p.length-1)=p.getLastD z:=by
 have hp:=List.length_pos_iff.2 h
 rw[dgA,List.getD_eq_getElem?_getD,List.getElem?_eq_getElem (by omega),Option.getD_some,List.getLastD_eq_getLast?,List.getLast?_eq_some_getLast h,Option.getD_some,List.getLast_eq_getElem]
theorem last_nil (h:1<=n){f:Bool}{sh:Sh}{s:Bool}:call gl tab n 121 [.ptr 100000 []] [(100000,PS f sh [] s)]=some (bAV z16,[(100000,PS f sh [] true)],[]):=by
 obtain⟨d,rfl⟩:=Nat.exists_eq_add_of_le' h
 show _=some (AV.agg (zac z16),_,_)
 rw[<-z16_av]
 rw[zax (fd:=fd121) rfl]
 simp(disch:=(fail_if_success intro _);omega) only[go_sem,simprocAttr,↓Nat.reduceEqDiff,xx,fd121,m121,↓out16_eq,H.oo,zg1]
 rfl
theorem last_some (h:1<=n){p:List Dg}(hp:p≠[])(hl:p.length<=1000000)(ha:All16 p){f:Bool}{s:Bool} :
  call gl tab n 121 [.ptr 100000 []] [(100000,PS f sB p s)]=some (bAV (p.getLastD z16),[(100000,PS true sB p.dropLast s)],[]):=by
 obtain⟨d,rfl⟩:=Nat.exists_eq_add_of_le' h
 have h1:=List.length_pos_iff.2 hp
 have hL:=dgL_length p
 have hD:=ze2 p
 have hA:=dgL_at (l:=p) (i:=p.length-1) (by omega)
 have q1:=ha.at (i:=p.length-1) (by omega)
 rw[zeq z16 hp]at hA q1
 have q2:=H.bytes_all (p.getLastD z16)
 generalize p.getLastD z16=r at *
 have e1:((p.length:Int)-1)=((p.length-1:Nat):Int):=by omega
 rw[zax (fd:=fd121) rfl]
 simp(implicitDefEqProofs:=false) (disch:=(fail_if_success intro _);omega) only[go_sem,simprocAttr,↓Nat.reduceEqDiff,xx,fd121,m121,↓out16_eq,H.oo,hL,hD,hA,q1,q2,e1,zcx]
theorem cl_len {z leaf:Dg}(h:leaf.length=16){i N:Nat}{p:List Dg}:(cl nd z leaf i N p).length=16:=by
 by_cases h2:2<=N
 . by_cases hi:i<spl N
   . rw[cl_lo h2 hi];exact zcv _ _
   . rw[cl_hi h2 hi];exact zcv _ _
 . rw[cl_one (by omega)];exact h
theorem zcd {p:List Dg}(ha:All16 p):(p.getLastD z16).length=16:=by
 by_cases h:p=[]
 . subst h;rfl
 . rw[<-zeq z16 h];exact ha.at (by have:=List.length_pos_iff.2 h;omega)
theorem All16.dropLast {p:List Dg}(h:All16 p):All16 p.dropLast:=by rw[List.dropLast_eq_take];exact h.take _
def lft (p:List Dg)(k:Nat):List Dg:=p.take (p.length-k)
def shr (p:List Dg)(s:Bool)(k:Nat):Bool:=s||decide (p.length<k)
theorem zkx (p:List Dg):lft p 0=p:=by simp[lft]
theorem zfv (p:List Dg)(s:Bool):shr p s 0=s:=by simp[shr]
theorem lft_succ (p:List Dg)(k:Nat):lft p (k+1)=lft p.dropLast k:=by
 rw[lft,lft,List.dropLast_eq_take,List.take_take,List.length_take]
 congr 1;omega
theorem zhc {p:List Dg}(h:p≠[])(s:Bool)(k:Nat):shr p s (k+1)=shr p.dropLast s k:=by
 have:=List.length_pos_iff.2 h
 simp only[shr,List.length_dropLast]
 congr 1
 exact decide_eq_decide.2 (by omega)
abbrev CH (leaf:Dg)(f:Bool)(sh:Sh)(p:List Dg)(s:Bool):Hp :=
 [(100000,.fix (.ar 16 .sc) (bAV leaf)),(100001,.fix .sc (.ptr 100002 [])),(100002,PS f sh p s),(100003,.fix .sc (.fn 120 [.ptr 100000 [],.ptr 100001 [],.ptr 100003 []]))]
theorem climb_one (h:1<=n){leaf:Dg}(hf:leaf.length=16){i N:Nat}(hN:N=1){f:Bool}{sh:Sh}{p:List Dg}{s:Bool} :
  call gl tab n 120 [i64 i,i64 N,.ptr 100000 [],.ptr 100001 [],.ptr 100003 []] (CH leaf f sh p s)=some (bAV leaf,CH leaf f sh p s,[]):=by
 obtain⟨d,rfl⟩:=Nat.exists_eq_add_of_le' h
 have q2:=H.bytes_all leaf
 subst hN
 rw[zax (fd:=fd120) rfl]
 simp(disch:=(fail_if_success intro _);omega) only[go_sem,simprocAttr,↓Nat.reduceEqDiff,xx,fd120,m120,↓out16_eq,H.oo,hf,q2]
section
variable [Nonempty (GlK gl)]
set_option maxHeartbeats 1000000 in
theorem climb_at :∀(c:Nat) {n:Nat} {leaf:Dg} {i N:Nat} {f:Bool} {sh:Sh} {p:List Dg} {s:Bool},leaf.length=16->N<=2^c->1<=N->i<N->c<=60->9+c<=n->All16 p->p.length<=1000000->Sd p sh sB ->
  ∃f',call gl tab n 120 [i64 i,i64 N,.ptr 100000 [],.ptr 100001 [],.ptr 100003 []] (CH leaf f sh p s)=some (bAV (cl nd z16 leaf i N p),CH leaf f' sh (lft p (dep i N)) (shr p s (dep i N)),[]):=by
 intro c
 induction c with
 | zero =>
   intro n leaf i N f sh p s hf hN h1 hi hc h ha hl hs
   have hN1:N=1:=by have:(2:Nat)^0=1:=rfl;omega
   rw[cl_one (by omega),dep_one (by omega),zkx,zfv]
   exact⟨f,climb_one (by omega) hf hN1⟩
 | succ c ih =>
   intro n leaf i N f sh p s hf hN h1 hi hc h ha hl hs
   by_cases hN1:N=1
   . rw[cl_one (by omega),dep_one (by omega),zkx,zfv]
     exact⟨f,climb_one (by omega) hf hN1⟩
   obtain⟨d,rfl⟩:∃d,n=d+1:=⟨n-1,by omega⟩
   have h2:2<=N:=by omega
   have hk:=zdi h2
   have hp:=zc4 N
   have hle:=spl_le h2 hN
   have hge:=@spl_ge N
   have h60:2^(c+1)<=2^60:=Nat.pow_le_pow_right (by omega) (by omega)
   have hN60:N<=1152921504606846976:=by have:(2:Nat)^60=1152921504606846976:=by decide
                                        omega
   have k:=@zks gl d (by omega) N h2 (by omega)
   have q2:=H.bytes_all leaf
   have key:∃f1,(call gl tab d 121 [.ptr 100000 []] [(100000,PS f sh p s)]=some (bAV (p.getLastD z16),[(100000,PS f1 sh p.dropLast (shr p s 1))],[])):=by
    by_cases hp0:p=[]
    . subst hp0
      refine⟨f,?_⟩
      rw[show shr [] s 1=true by simp[shr]]
      exact last_nil (by omega)
    . obtain rfl:sh=sB:=by rcases hs with hs|hs;exact absurd hs hp0;exact hs
      refine⟨true,?_⟩
      rw[show shr p s 1=s from by rw[zhc hp0,zfv]]
      exact last_some (by omega) hp0 hl ha
   obtain⟨f1,key⟩:=key
   have hs':Sd p.dropLast sh sB:=by rcases hs with hs|hs;exact Or.inl (by rw[hs];rfl);exact Or.inr hs
   have e1:∀k,lft p.dropLast k=lft p (k+1):=fun k=>(lft_succ p k).symm
   have e2:∀k,shr p.dropLast (shr p s 1) k=shr p s (k+1):=fun k=>by
    by_cases hp0:p=[]
    . subst hp0;simp[shr]
    . rw[zhc hp0 s k,zhc hp0,zfv]
   have g1:=zcd ha
   have g2:=H.bytes_all (p.getLastD z16)
   by_cases hlo:i<spl N
   . obtain⟨f2,a⟩:=@ih d leaf i (spl N) f1 sh p.dropLast (shr p s 1) hf hle (by omega) hlo (by omega) (by omega) ha.dropLast (by rw[List.length_dropLast];omega) hs'
     rw[e1,e2,<-dep_lo h2 hlo]at a
     have c1:=@cl_len z16 leaf hf i (spl N) p.dropLast
     have e:=@zgq gl d _ (by omega) _ _ c1 g1
     have e3:=zcv (cl nd z16 leaf i (spl N) p.dropLast) (p.getLastD z16)
     have e4:=H.bytes_all (nd (cl nd z16 leaf i (spl N) p.dropLast) (p.getLastD z16))
     rw[cl_lo h2 hlo]
     refine⟨f2,?_⟩
     generalize nd (cl nd z16 leaf i (spl N) p.dropLast) (p.getLastD z16)=q at *
     generalize cl nd z16 leaf i (spl N) p.dropLast=qa at *
     generalize p.getLastD z16=r at *
     generalize spl N=z at *
     rw[zax (fd:=fd120) rfl]
     simp(implicitDefEqProofs:=false) (disch:=(fail_if_success intro _);omega) only[go_sem,simprocAttr,↓Nat.reduceEqDiff,xx,fd120,m120,↓out16_eq,H.oo,k,key,a,e,e3,e4,g1,g2,q2,hf]
   . have ei:(i:Int)-(spl N:Int)=((i-spl N:Nat):Int):=by omega
     have eN:(N:Int)-(spl N:Int)=((N-spl N:Nat):Int):=by omega
     obtain⟨f2,a⟩:=@ih d leaf (i-spl N) (N-spl N) f1 sh p.dropLast (shr p s 1) hf (by omega) (by omega) (by omega) (by omega) (by omega) ha.dropLast (by rw[List.length_dropLast];omega) hs'
     rw[e1,e2,<-dep_hi h2 hlo]at a
     have c1:=@cl_len z16 leaf hf (i-spl N) (N-spl N) p.dropLast
     have e:=@zgq gl d _ (by omega) _ _ g1 c1
     have e3:=zcv (p.getLastD z16) (cl nd z16 leaf (i-spl N) (N-spl N) p.dropLast)
     have e4:=H.bytes_all (nd (p.getLastD z16) (cl nd z16 leaf (i-spl N) (N-spl N) p.dropLast))
     rw[cl_hi h2 hlo]
     refine⟨f2,?_⟩
     generalize nd (p.getLastD z16) (cl nd z16 leaf (i-spl N) (N-spl N) p.dropLast)=q at *
     generalize cl nd z16 leaf (i-spl N) (N-spl N) p.dropLast=qa at *
     generalize p.getLastD z16=r at *
     generalize spl N=z at *
     rw[zax (fd:=fd120) rfl]
     simp(implicitDefEqProofs:=false) (disch:=(fail_if_success intro _);omega) only[go_sem,simprocAttr,↓Nat.reduceEqDiff,xx,fd120,m120,↓out16_eq,H.oo,k,key,a,e,e3,e4,g1,g2,q2,hf,ei,eN]
end
end Go.Proofs.S44.M
