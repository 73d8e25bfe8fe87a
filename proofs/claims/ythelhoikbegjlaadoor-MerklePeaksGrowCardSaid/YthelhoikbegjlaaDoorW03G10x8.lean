/-
  Chapter 3: roots. No condition.
-/
import Derived.Test.YthelhoikbegjlaaDoorW03G9x8
set_option linter.unusedVariables false
set_option linter.unusedSimpArgs false
set_option linter.unusedSectionVars false
namespace Go.Proofs.S03
open Go Go.Ev Go.Proofs Go.Mk
open Go.Proofs.S03.H (GlK GlR)
variable {gl :Gl} {n:Nat}
def Sd {α:Type}(l:List α)(m s:Sh):Prop:=l=[]\/m=s
theorem sB_size :sB.size=16:=rfl
def L40 :MC:=match m40 with| .seq _ (.seq _ (.seq (.block _ (.loop _ b)) _))=>b|_=>.skip
def S40 (m:Nat)(i:Nat):St:=⟨[.set 3 (i64 ((2^i:Nat):Int)),.set 0 (i64 m)],[]⟩
theorem rsplit_at (h:1<=n){m:Nat}(h2:2<=m)(hm:m<=4611686018427387904):call gl tab n 40 [i64 m] []=some (i64 (spl m),[],[]):=by
 obtain⟨d,rfl⟩:=Nat.exists_eq_add_of_le' h
 have hk:(m-1).log2<62:=(Nat.log2_lt (by omega)).2 (by omega)
 have hlo:=spl_lt h2
 have hge:=@spl_ge m
 rw[call_go (fd:=fd40) rfl]
 simp(disch:=((fail_if_success (intro _));omega)) only[go_sem,simprocAttr,↓reduceIte,↓Nat.reduceEqDiff,xx,fd40,m40]
 rw[iter_to (S40 m) (m-1).log2 (by unfold LF;omega)]
 . rw[S40,show(2:Nat)^(m-1).log2=spl m from rfl]
   generalize spl m=x at *
   simp(disch:=((fail_if_success (intro _));omega)) only[go_sem,simprocAttr,↓reduceIte,↓Nat.reduceEqDiff,xx]
 . rw[S40];simp(disch:=((fail_if_success (intro _));omega)) only[go_sem,simprocAttr,↓reduceIte,↓Nat.reduceEqDiff,xx]
 . intro i hi
   have h3:2^(i+1)<=spl m:=Nat.pow_le_pow_right (by omega) hi
   have h4:(2:Nat)^(i+1)=2*2^i:=by rw[Nat.pow_succ];omega
   rw[S40,S40,h4]
   generalize spl m=y at *
   generalize 2^i=x at *
   rw[show((2*x:Nat):Int)=2*(x:Int) by omega]
   simp(disch:=((fail_if_success (intro _));omega)) only[go_sem,simprocAttr,↓reduceIte,↓Nat.reduceEqDiff,xx]
 . rw[S40,show(2:Nat)^(m-1).log2=spl m from rfl]
   generalize spl m=x at *
   simp(disch:=((fail_if_success (intro _));omega)) only[go_sem,simprocAttr,↓reduceIte,↓Nat.reduceEqDiff,xx]
theorem rt_len :∀{l:List Dg},All16 l->(rt nd em l).length=16
 | [],_=>by rw[rt_nil];exact em_len
 | [x],h=>by rw[rt_one];exact h x (by simp)
 | x::y::l,h=>by rw[rt_two (by simp)];exact nd_len _ _
section
variable [Nonempty (GlK gl)]
theorem root_at :∀(c:Nat) {n:Nat} (l:List Dg) (f:Bool) (sh:Sh),l.length<=c->8+c<=n->All16 l->l.length<2^60->Sd l sh sB->call gl tab n 15 [.lst f sh (dgL l)] []=some (bAV (rt nd em l),[],[]):=by
 intro c
 induction c with
 | zero =>
   intro n l f sh hc h ha hl hs
   obtain⟨d,rfl⟩:∃d,n=d+1:=⟨n-1,by omega⟩
   obtain rfl:l=[]:=List.length_eq_zero_iff.1 (by omega)
   have e:=@empty_at gl d _ (by omega)
   have e1:=em_len
   have e2:=H.bytes_all em
   rw[rt_nil]
   generalize em=q at *
   rw[call_go (fd:=fd15) rfl]
   simp(disch:=((fail_if_success (intro _));omega)) only[go_sem,simprocAttr,↓reduceIte,↓Nat.reduceEqDiff,xx,fd15,m15,↓out16_eq,H.out16_len,H.out16_all,H.out16_pl,dgL_nil,e,e1,e2,H.noImms_bytesAV]
 | succ c ih =>
   intro n l f sh hc h ha hl hs
   obtain⟨d,rfl⟩:∃d,n=d+1:=⟨n-1,by omega⟩
   have hL:=dgL_length l
   have hT:=dgL_all l
   match l,hs with
   | [],hs =>
     have e:=@empty_at gl d _ (by omega)
     have e1:=em_len
     have e2:=H.bytes_all em
     rw[rt_nil]
     generalize em=q at *
     rw[call_go (fd:=fd15) rfl]
     simp(disch:=((fail_if_success (intro _));omega)) only[go_sem,simprocAttr,↓reduceIte,↓Nat.reduceEqDiff,xx,fd15,m15,↓out16_eq,H.out16_len,H.out16_all,H.out16_pl,dgL_nil,e,e1,e2,H.noImms_bytesAV]
   | [x],hs =>
     obtain rfl:sh=sB:=by rcases hs with hs|hs;cases hs;exact hs
     have e1:=ha.at (i:=0) (by simp)
     rw[rt_one]
     have e2:=H.bytes_all x
     simp only[dgA,List.getD_cons_zero]at e1
     rw[call_go (fd:=fd15) rfl]
     simp(disch:=((fail_if_success (intro _));omega)) only[go_sem,simprocAttr,↓reduceIte,↓Nat.reduceEqDiff,xx,fd15,m15,↓out16_eq,H.out16_len,H.out16_all,H.out16_pl,dgL,List.map_cons,List.map_nil,sB_size,e1,e2,H.noImms_bytesAV]
   | x::y::l,hs =>
     obtain rfl:sh=sB:=by rcases hs with hs|hs;cases hs;exact hs
     have h2:2<=(x::y::l).length:=by simp
     rw[rt_two h2]
     generalize (x::y::l)=l at *
     have hk:=spl_lt h2
     have hp:=spl_pos l.length
     have k:=@split_at gl d (by omega) l.length h2 (by omega)
     have a:=fun f'=>@ih d (l.take (spl l.length)) f' sB (by rw[List.length_take];omega) (by omega) (ha.take _) (by rw[List.length_take];omega) (Or.inr rfl)
     have b:=fun f'=>@ih d (l.drop (spl l.length)) f' sB (by rw[List.length_drop];omega) (by omega) (ha.drop _) (by rw[List.length_drop];omega) (Or.inr rfl)
     have ra:(rt nd em (l.take (spl l.length))).length=16:=rt_len (ha.take _)
     have rb:(rt nd em (l.drop (spl l.length))).length=16:=rt_len (ha.drop _)
     have e:=@node_at gl d _ (by omega) _ _ ra rb
     have e1:=nd_len (rt nd em (l.take (spl l.length))) (rt nd em (l.drop (spl l.length)))
     have e2:=H.bytes_all (nd (rt nd em (l.take (spl l.length))) (rt nd em (l.drop (spl l.length))))
     generalize nd (rt nd em (l.take (spl l.length))) (rt nd em (l.drop (spl l.length)))=q at *
     generalize rt nd em (l.take (spl l.length))=qa at *
     generalize rt nd em (l.drop (spl l.length))=qb at *
     simp only[<-dgL_take]at a;simp only[<-dgL_drop]at b
     generalize spl l.length=z at *
     generalize l.length=w at *
     rw[call_go (fd:=fd15) rfl]
     simp(implicitDefEqProofs:=false) (disch:=((fail_if_success (intro _));omega)) only[go_sem,simprocAttr,↓reduceIte,↓Nat.reduceEqDiff,xx,fd15,m15,↓out16_eq,H.out16_len,H.out16_all,H.out16_pl,hL,hT,sB_size,k,a,b,e,e1,e2,H.noImms_bytesAV]
end
section
variable [Nonempty (GlR gl)]
theorem rroot_at :∀(c:Nat) {n:Nat} (l:List Dg) (f:Bool) (sh:Sh),l.length<=c->8+c<=n->All16 l->l.length<2^60->Sd l sh sB->call gl tab n 16 [.lst f sh (dgL l)] []=some (bAV (rt nd em l),[],[]):=by
 intro c
 induction c with
 | zero =>
   intro n l f sh hc h ha hl hs
   obtain⟨d,rfl⟩:∃d,n=d+1:=⟨n-1,by omega⟩
   obtain rfl:l=[]:=List.length_eq_zero_iff.1 (by omega)
   have e:=@rempty_at gl d _ (by omega)
   have e1:=em_len
   have e2:=H.bytes_all em
   rw[rt_nil]
   generalize em=q at *
   rw[call_go (fd:=fd16) rfl]
   simp(disch:=((fail_if_success (intro _));omega)) only[go_sem,simprocAttr,↓reduceIte,↓Nat.reduceEqDiff,xx,fd16,m16,↓out16_eq,H.out16_len,H.out16_all,H.out16_pl,dgL_nil,e,e1,e2,H.noImms_bytesAV]
 | succ c ih =>
   intro n l f sh hc h ha hl hs
   obtain⟨d,rfl⟩:∃d,n=d+1:=⟨n-1,by omega⟩
   have hL:=dgL_length l
   have hT:=dgL_all l
   match l,hs with
   | [],hs =>
     have e:=@rempty_at gl d _ (by omega)
     have e1:=em_len
     have e2:=H.bytes_all em
     rw[rt_nil]
     generalize em=q at *
     rw[call_go (fd:=fd16) rfl]
     simp(disch:=((fail_if_success (intro _));omega)) only[go_sem,simprocAttr,↓reduceIte,↓Nat.reduceEqDiff,xx,fd16,m16,↓out16_eq,H.out16_len,H.out16_all,H.out16_pl,dgL_nil,e,e1,e2,H.noImms_bytesAV]
   | [x],hs =>
     obtain rfl:sh=sB:=by rcases hs with hs|hs;cases hs;exact hs
     have e1:=ha.at (i:=0) (by simp)
     rw[rt_one]
     have e2:=H.bytes_all x
     simp only[dgA,List.getD_cons_zero]at e1
     rw[call_go (fd:=fd16) rfl]
     simp(disch:=((fail_if_success (intro _));omega)) only[go_sem,simprocAttr,↓reduceIte,↓Nat.reduceEqDiff,xx,fd16,m16,↓out16_eq,H.out16_len,H.out16_all,H.out16_pl,dgL,List.map_cons,List.map_nil,sB_size,e1,e2,H.noImms_bytesAV]
   | x::y::l,hs =>
     obtain rfl:sh=sB:=by rcases hs with hs|hs;cases hs;exact hs
     have h2:2<=(x::y::l).length:=by simp
     rw[rt_two h2]
     generalize (x::y::l)=l at *
     have hk:=spl_lt h2
     have hp:=spl_pos l.length
     have k:=@rsplit_at gl d (by omega) l.length h2 (by omega)
     have a:=fun f'=>@ih d (l.take (spl l.length)) f' sB (by rw[List.length_take];omega) (by omega) (ha.take _) (by rw[List.length_take];omega) (Or.inr rfl)
     have b:=fun f'=>@ih d (l.drop (spl l.length)) f' sB (by rw[List.length_drop];omega) (by omega) (ha.drop _) (by rw[List.length_drop];omega) (Or.inr rfl)
     have ra:(rt nd em (l.take (spl l.length))).length=16:=rt_len (ha.take _)
     have rb:(rt nd em (l.drop (spl l.length))).length=16:=rt_len (ha.drop _)
     have e:=@rnode_at gl d _ (by omega) _ _ ra rb
     have e1:=nd_len (rt nd em (l.take (spl l.length))) (rt nd em (l.drop (spl l.length)))
     have e2:=H.bytes_all (nd (rt nd em (l.take (spl l.length))) (rt nd em (l.drop (spl l.length))))
     generalize nd (rt nd em (l.take (spl l.length))) (rt nd em (l.drop (spl l.length)))=q at *
     generalize rt nd em (l.take (spl l.length))=qa at *
     generalize rt nd em (l.drop (spl l.length))=qb at *
     simp only[<-dgL_take]at a;simp only[<-dgL_drop]at b
     generalize spl l.length=z at *
     generalize l.length=w at *
     rw[call_go (fd:=fd16) rfl]
     simp(implicitDefEqProofs:=false) (disch:=((fail_if_success (intro _));omega)) only[go_sem,simprocAttr,↓reduceIte,↓Nat.reduceEqDiff,xx,fd16,m16,↓out16_eq,H.out16_len,H.out16_all,H.out16_pl,hL,hT,sB_size,k,a,b,e,e1,e2,H.noImms_bytesAV]
end
end Go.Proofs.S03
namespace Go.Proofs.S03
open Go Go.Ev Go.Proofs Go.Mk
open Go.Proofs.S03.H (GlK GlR)
variable {gl :Gl} {n:Nat}
abbrev nilA :AV:=.lst true .sc []
abbrev F32 :OB:=.fix .sc (.fn 32 [.ptr 100000 [],.ptr 100001 []])
theorem incl_le :∀(c:Nat) (l:List Dg) (i:Nat),l.length<=c->(incl nd em l i).length<=l.length
 | 0,l,i,h=>by rw[incl_one (by omega)];simp
 | c+1,l,i,h=>by
   by_cases h2:2<=l.length
   . have hk:=spl_lt h2
     have hp:=spl_pos l.length
     by_cases hi:i<spl l.length
     . rw[incl_lo h2 hi,List.length_append,List.length_singleton]
       have:=incl_le c (l.take (spl l.length)) i (by rw[List.length_take];omega)
       rw[List.length_take]at this;omega
     . rw[incl_hi h2 hi,List.length_append,List.length_singleton]
       have:=incl_le c (l.drop (spl l.length)) (i-spl l.length) (by rw[List.length_drop];omega)
       rw[List.length_drop]at this;omega
   . rw[incl_one (by omega)];simp
theorem prove32_one (h:1<=n){l:List Dg}{f:Bool}(i:Nat)(h1:l.length=1) :
  call gl tab n 32 [.lst f sB (dgL l),i64 i,.ptr 100000 [],.ptr 100001 []] [(100000,F32),(100001,.fix .sc nilA)]=some (.tup [],[(100000,F32),(100001,.fix .sc nilA)],[]):=by
 obtain⟨d,rfl⟩:=Nat.exists_eq_add_of_le' h
 have hL:=dgL_length l
 rw[call_gen (fd:=fd32) rfl]
 simp(disch:=((fail_if_success (intro _));omega)) only[go_sem,simprocAttr,↓reduceIte,↓Nat.reduceEqDiff,xx,fd32,m32,hL,h1]
section
variable [Nonempty (GlK gl)]
theorem prove32 :∀(c:Nat) {n:Nat} (l:List Dg) (f:Bool) (i:Nat),l.length<=c->9+c<=n->All16 l->l.length<=1000000->i<l.length->2<=l.length ->
  call gl tab n 32 [.lst f sB (dgL l),i64 i,.ptr 100000 [],.ptr 100001 []] [(100000,F32),(100001,.fix .sc nilA)] =
   some (.tup [],[(100000,F32),(100001,.fix .sc (.sl 20000 [] 0 (incl nd em l i).length))],[.grow sB (dgL (incl nd em l i))]):=by
 intro c
 induction c with
 | zero=>intro n l f i hc h ha hl hi h2;omega
 | succ c ih =>
   intro n l f i hc h ha hl hi h2
   obtain⟨d,rfl⟩:∃d,n=d+1:=⟨n-1,by omega⟩
   have hL:=dgL_length l
   have hT:=dgL_all l
   have hk:=spl_lt h2
   have hp:=spl_pos l.length
   have k:=@split_at gl d (by omega) l.length h2 (by omega)
   have na:=dgL_noImms
   have l1:1<=LIM:=by unfold LIM;omega
   by_cases hlo:i<spl l.length
   . have b:=fun f'=>@root_at gl _ c d (l.drop (spl l.length)) f' sB (by rw[List.length_drop];omega) (by omega) (ha.drop _) (by rw[List.length_drop];omega) (Or.inr rfl)
     rw[incl_lo h2 hlo,dgL_app,List.length_append,List.length_singleton]
     have rb:=rt_len (ha.drop (spl l.length))
     have qb:=H.bytes_all (rt nd em (l.drop (spl l.length)))
     have tl:(l.take (spl l.length)).length=spl l.length:=by rw[List.length_take];omega
     by_cases h3:2<=spl l.length
     . have a:=fun f'=>@ih d (l.take (spl l.length)) f' i (by omega) (by omega) (ha.take _) (by omega) (by omega) (by omega)
       have hN:=incl_le _ (l.take (spl l.length)) i (Nat.le_refl _)
       have hM:=dgL_length (incl nd em (l.take (spl l.length)) i)
       simp only[<-dgL_take]at a
       simp only[<-dgL_drop]at b
       generalize rt nd em (l.drop (spl l.length))=r at *
       generalize incl nd em (l.take (spl l.length)) i=p at *
       rw[tl]at hN
       have hlim:p.length+1<=LIM:=by unfold LIM;omega
       generalize spl l.length=z at *
       generalize l.length=w at *
       rw[call_gen (fd:=fd32) rfl]
       simp(implicitDefEqProofs:=false) (disch:=((fail_if_success (intro _));omega)) only[go_sem,simprocAttr,↓reduceIte,↓Nat.reduceEqDiff,xx,fd32,m32,↓out16_eq,H.out16_len,H.out16_all,H.out16_pl,hL,hT,hM,sB_size,k,a,b,rb,qb,na,H.noImms_bytesAV]
     . have a:=fun f'=>@prove32_one gl d (by omega) (l.take (spl l.length)) f' i (by omega)
       rw[incl_one (l:=l.take (spl l.length)) (by omega)]
       simp only[<-dgL_take]at a
       simp only[<-dgL_drop]at b
       generalize rt nd em (l.drop (spl l.length))=r at *
       generalize spl l.length=z at *
       generalize l.length=w at *
       rw[call_gen (fd:=fd32) rfl]
       simp(implicitDefEqProofs:=false) (disch:=((fail_if_success (intro _));omega)) only[go_sem,simprocAttr,↓reduceIte,↓Nat.reduceEqDiff,xx,fd32,m32,↓out16_eq,H.out16_len,H.out16_all,H.out16_pl,hL,hT,sB_size,k,a,b,rb,qb,na,H.noImms_bytesAV,dgL_nil]
   . have b:=fun f'=>@root_at gl _ c d (l.take (spl l.length)) f' sB (by rw[List.length_take];omega) (by omega) (ha.take _) (by rw[List.length_take];omega) (Or.inr rfl)
     rw[incl_hi h2 hlo,dgL_app,List.length_append,List.length_singleton]
     have rb:=rt_len (ha.take (spl l.length))
     have qb:=H.bytes_all (rt nd em (l.take (spl l.length)))
     have tl:(l.drop (spl l.length)).length=l.length-spl l.length:=by rw[List.length_drop]
     have ei:(i:Int)-(spl l.length:Int)=((i-spl l.length:Nat):Int):=by omega
     by_cases h3:2<=l.length-spl l.length
     . have a:=fun f'=>@ih d (l.drop (spl l.length)) f' (i-spl l.length) (by omega) (by omega) (ha.drop _) (by omega) (by omega) (by omega)
       have hN:=incl_le _ (l.drop (spl l.length)) (i-spl l.length) (Nat.le_refl _)
       have hM:=dgL_length (incl nd em (l.drop (spl l.length)) (i-spl l.length))
       simp only[<-dgL_drop]at a
       simp only[<-dgL_take]at b
       generalize rt nd em (l.take (spl l.length))=r at *
       generalize incl nd em (l.drop (spl l.length)) (i-spl l.length)=p at *
       rw[tl]at hN
       have hlim:p.length+1<=LIM:=by unfold LIM;omega
       generalize spl l.length=z at *
       generalize l.length=w at *
       rw[call_gen (fd:=fd32) rfl]
       simp(implicitDefEqProofs:=false) (disch:=((fail_if_success (intro _));omega)) only[go_sem,simprocAttr,↓reduceIte,↓Nat.reduceEqDiff,xx,fd32,m32,↓out16_eq,H.out16_len,H.out16_all,H.out16_pl,hL,hT,hM,sB_size,k,a,b,rb,qb,na,H.noImms_bytesAV,ei]
     . have a:=fun f'=>@prove32_one gl d (by omega) (l.drop (spl l.length)) f' (i-spl l.length) (by omega)
       rw[incl_one (l:=l.drop (spl l.length)) (by omega)]
       simp only[<-dgL_drop]at a
       simp only[<-dgL_take]at b
       generalize rt nd em (l.take (spl l.length))=r at *
       generalize spl l.length=z at *
       generalize l.length=w at *
       rw[call_gen (fd:=fd32) rfl]
       simp(implicitDefEqProofs:=false) (disch:=((fail_if_success (intro _));omega)) only[go_sem,simprocAttr,↓reduceIte,↓Nat.reduceEqDiff,xx,fd32,m32,↓out16_eq,H.out16_len,H.out16_all,H.out16_pl,hL,hT,sB_size,k,a,b,rb,qb,na,H.noImms_bytesAV,dgL_nil,ei]
end
def ansL (p:List Dg):AV:=if p=[]then nilA else .lst false sB (dgL p)
end Go.Proofs.S03
