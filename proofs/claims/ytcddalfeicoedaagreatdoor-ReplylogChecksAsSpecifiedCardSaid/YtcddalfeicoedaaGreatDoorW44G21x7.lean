/-
  Chapter 44: checking proofs, as specified. No condition.
-/
import Derived.Test.YtcddalfeicoedaaGreatDoorW44G20x7
set_option linter.unusedVariables false
set_option linter.unusedSimpArgs false
set_option linter.unusedSectionVars false
namespace Go.Proofs.S44.M
open Go Go.Ev Go.Proofs Go.Mk
open Go.Proofs.S44.H (GlK GlR)
variable {gl :Gl} {n:Nat}
section
variable [Nonempty (GlR gl)]
theorem rclimb_at :∀(c:Nat) {n:Nat} {leaf:Dg} (i N:Nat) (f:Bool) (sh:Sh) (p:List Dg),p.length<=c->9+c<=n->leaf.length=16->All16 p->Sd p sh sB->p.length<=1000000->1<=N->N<=1099511627776->i<N ->
  ∃(D:Dg) (ok:Bool),call gl tab n 78 [bAV leaf,i64 i,i64 N,.lst f sh (dgL p)] []=some (.agg [bAV D,.bool ok],[],[])/\D.length=16/\(ok=true↔p.length=dep i N)/\(ok=true->D=cl nd z16 leaf i N p):=by
 intro c
 induction c with
 | zero =>
   intro n leaf i N f sh p hc h hf ha hs hl hN hN2 hi
   obtain⟨d,rfl⟩:∃d,n=d+1:=⟨n-1,by omega⟩
   have hp:p=[]:=List.length_eq_zero_iff.1 (by omega)
   subst hp
   have l1:=b16t hf
   have l2:=H.bytes_all leaf
   by_cases h1:N=1
   . subst h1
     refine⟨leaf,true,?_,hf,⟨fun _=>(dep_one (by omega)).symm,fun _=>rfl⟩,fun _=>by rw[cl,dif_neg (by omega)]⟩
     have e1:(((1:Nat)):Int)=1:=rfl
     have e0:dgL []=[]:=rfl
     rw[zad (fd:=fd78) rfl]
     simp(disch:=(fail_if_success intro _);omega) only[go_sem,simprocAttr,↓Nat.reduceEqDiff,xx,fd78,m78,↓out16_eq,e0,e1,l1,l2,hf,H.oo,zaa]
   . refine⟨z16,false,?_,rfl,⟨(fun h=>by cases h),fun h=> ?_⟩,(fun h=>by cases h)⟩
     . have e0:dgL []=[]:=rfl
       rw[zad (fd:=fd78) rfl]
       show _=some (AV.agg [.agg H.out16l,_],_,_)
       simp(disch:=(fail_if_success intro _);omega) only[go_sem,simprocAttr,↓Nat.reduceEqDiff,xx,fd78,m78,↓out16_eq,e0,l1,l2,hf,H.oo,zaa]
     . have h0:dep i N≠0:=by
        rw[dep,dif_pos (by omega)];omega
       exact absurd h.symm h0
 | succ c ih =>
   intro n leaf i N f sh p hc h hf ha hs hl hN hN2 hi
   obtain⟨d,rfl⟩:∃d,n=d+1:=⟨n-1,by omega⟩
   have l1:=b16t hf
   have l2:=H.bytes_all leaf
   have hL:=dgL_length p
   by_cases h1:N=1
   . subst h1
     have e1:(((1:Nat)):Int)=1:=rfl
     refine⟨leaf,decide (p.length=0),?_,hf,⟨fun h=> ?_,fun h=> ?_⟩,fun _=>by rw[cl,dif_neg (by omega)]⟩
     . rw[zad (fd:=fd78) rfl]
       by_cases h0:p.length=0
       . rw[decide_eq_true h0]
         simp(disch:=(fail_if_success intro _);omega) only[go_sem,simprocAttr,↓Nat.reduceEqDiff,xx,fd78,m78,↓out16_eq,hL,e1,l1,l2,hf,H.oo,zaa]
       . rw[decide_eq_false h0]
         simp(disch:=(fail_if_success intro _);omega) only[go_sem,simprocAttr,↓Nat.reduceEqDiff,xx,fd78,m78,↓out16_eq,hL,e1,l1,l2,hf,H.oo,zaa]
     . rw[of_decide_eq_true h,dep_one (by omega)]
     . rw[dep_one (by omega)]at h
       exact decide_eq_true h
   have h2:2<=N:=by omega
   by_cases hp:p=[]
   . subst hp
     refine⟨z16,false,?_,rfl,⟨(fun h=>by cases h),fun h=> ?_⟩,(fun h=>by cases h)⟩
     . have e0:dgL []=[]:=rfl
       rw[zad (fd:=fd78) rfl]
       show _=some (AV.agg [.agg H.out16l,_],_,_)
       simp(disch:=(fail_if_success intro _);omega) only[go_sem,simprocAttr,↓Nat.reduceEqDiff,xx,fd78,m78,↓out16_eq,e0,l1,l2,hf,H.oo,zaa]
     . have h0:dep i N≠0:=by
        rw[dep,dif_pos (by omega)];omega
       exact absurd h.symm h0
   have hp0:p.length≠0:=fun e=>hp (List.length_eq_zero_iff.1 e)
   obtain rfl:sh=sB:=hs.resolve_left hp
   have hk:=zdi h2
   have hpos:=zc4 N
   have k:=@rsplit_at gl d (by omega) N h2 (by omega)
   have hA:=dgL_at (l:=p) (i:=p.length-1) (by omega)
   rw[zeq z16 hp]at hA
   have hD:=ze2 p
   have q1:=zcd ha
   have q2:=H.bytes_all (p.getLastD z16)
   have hdl:p.dropLast.length=p.length-1:=List.length_dropLast
   have c1:(p.length:Int)-1=((p.length-1:Nat):Int):=by omega
   by_cases hlo:i<spl N
   . obtain⟨D,ok,a,g1,g2,g3⟩:=@ih d leaf i (spl N) (f&&(p.length-1==p.length)) sB p.dropLast (by omega) (by omega) hf ha.dropLast (.inr rfl) (by omega) (by omega) (by omega) hlo
     have nd1:=@zio gl d _ (by omega) D (p.getLastD z16) g1 q1
     have nl:=zcv D (p.getLastD z16)
     have nq:=H.bytes_all (nd D (p.getLastD z16))
     have gq:=H.bytes_all D
     refine⟨nd D (p.getLastD z16),ok,?_,nl,?_,?_⟩
     . clear ih g2 g3 hs ha
       generalize nd D (p.getLastD z16)=r at *
       generalize p.getLastD z16=last at *
       generalize p.dropLast=p' at *
       obtain⟨w,hw⟩:∃w,p.length=w+1:=⟨p.length-1,by omega⟩
       rw[hw]at hL hA hD a hdl
       rw[Nat.add_sub_cancel]at hA hD a hdl
       rw[zad (fd:=fd78) rfl]
       simp(maxSteps:=1000000) (disch:=(fail_if_success intro _);omega) only[go_sem,simprocAttr,↓Nat.reduceEqDiff,xx,fd78,m78,↓out16_eq,hL,hA,hD,k,a,nd1,l1,l2,hf,q1,q2,g1,gq,nl,nq,zcx,Nat.sub_zero,List.drop_zero,Nat.add_sub_cancel,H.oo,zaa]
     . rw[g2,dep_lo h2 hlo,hdl];omega
     . intro hok
       rw[cl,dif_pos h2,if_pos hlo,g3 hok]
   . obtain⟨D,ok,a,g1,g2,g3⟩:=@ih d leaf (i-spl N) (N-spl N) (f&&(p.length-1==p.length)) sB p.dropLast (by omega) (by omega) hf ha.dropLast (.inr rfl) (by omega) (by omega) (by omega) (by omega)
     have nd1:=@zio gl d _ (by omega) (p.getLastD z16) D q1 g1
     have nl:=zcv (p.getLastD z16) D
     have nq:=H.bytes_all (nd (p.getLastD z16) D)
     have gq:=H.bytes_all D
     have e1:(i:Int)-(spl N:Int)=((i-spl N:Nat):Int):=by omega
     have e2:(N:Int)-(spl N:Int)=((N-spl N:Nat):Int):=by omega
     rw[<-e1,<-e2]at a
     refine⟨nd (p.getLastD z16) D,ok,?_,nl,?_,?_⟩
     . clear ih g2 g3 hs ha
       generalize nd (p.getLastD z16) D=r at *
       generalize p.getLastD z16=last at *
       generalize p.dropLast=p' at *
       obtain⟨w,hw⟩:∃w,p.length=w+1:=⟨p.length-1,by omega⟩
       rw[hw]at hL hA hD a hdl
       rw[Nat.add_sub_cancel]at hA hD a hdl
       clear e1 e2
       generalize spl N=z at *
       rw[zad (fd:=fd78) rfl]
       simp(maxSteps:=1000000) (disch:=(fail_if_success intro _);omega) only[go_sem,simprocAttr,↓Nat.reduceEqDiff,xx,fd78,m78,↓out16_eq,hL,hA,hD,k,a,nd1,l1,l2,hf,q1,q2,g1,gq,nl,nq,zcx,Nat.sub_zero,List.drop_zero,Nat.add_sub_cancel,H.oo,zaa]
     . rw[g2,dep_hi h2 hlo,hdl];omega
     . intro hok
       rw[cl,dif_pos h2,if_neg hlo,g3 hok]
end
end Go.Proofs.S44.M
namespace Go.Proofs.S44.M
open Go Go.Ev Go.Proofs Go.Mk
open Go.Proofs.S44.H (GlK GlR)
variable {gl :Gl} {n:Nat}
section
variable [Nonempty (GlR gl)]
theorem rboth_at :∀(c:Nat) {n:Nat} {old:Dg} (m N:Nat) (mark:Bool) (f:Bool) (sh:Sh) (p:List Dg),p.length<=c->9+c<=n->old.length=16->All16 p->Sd p sh sB->p.length<=1000000->1<=m->m<=N->N<=1099511627776 ->
  ∃(A B:Dg) (ok:Bool),call gl tab n 143 [i64 m,i64 N,.bool mark,bAV old,.lst f sh (dgL p)] []=some (.agg [bAV A,bAV B,.bool ok],[],[])/\(A.length=16/\B.length=16)/\(ok=true↔p.length=depC m N mark)/\(ok=true->(A,B)=clc old m N mark p):=by
 intro c
 induction c with
 | zero =>
   intro n old m N mark f sh p hc h hf ha hs hl hm hN hN2
   obtain⟨d,rfl⟩:∃d,n=d+1:=⟨n-1,by omega⟩
   have hp:p=[]:=List.length_eq_zero_iff.1 (by omega)
   subst hp
   have l1:=b16t hf
   have l2:=H.bytes_all old
   have e0:dgL []=[]:=rfl
   by_cases h1:m=N/\mark=true
   . obtain⟨rfl,rfl⟩:=h1
     refine⟨old,old,true,?_,⟨hf,hf⟩,⟨fun _=>by rw[depC_all];rfl,fun _=>rfl⟩,fun _=>by rw[clc,clC_all];rfl⟩
     rw[zad (fd:=zfp) rfl]
     simp(disch:=(fail_if_success intro _);omega) only[go_sem,simprocAttr,↓Nat.reduceEqDiff,xx,zfp,m143,↓out16_eq,e0,l1,l2,hf,H.oo,zaa]
   . refine⟨z16,z16,false,?_,⟨rfl,rfl⟩,⟨(fun h=>by cases h),fun h=> ?_⟩,(fun h=>by cases h)⟩
     . rw[zad (fd:=zfp) rfl]
       show _=some (AV.agg [.agg H.out16l,.agg H.out16l,_],_,_)
       by_cases h2:m=N
       . have hk:mark=false:=by cases mark<;>simp_all
         subst h2 hk
         simp(disch:=(fail_if_success intro _);omega) only[go_sem,simprocAttr,↓Nat.reduceEqDiff,xx,zfp,m143,↓out16_eq,e0,l1,l2,hf,H.oo,zaa]
       . simp(disch:=(fail_if_success intro _);omega) only[go_sem,simprocAttr,↓Nat.reduceEqDiff,xx,zfp,m143,↓out16_eq,e0,l1,l2,hf,H.oo,zaa]
     . exfalso
       have h:0=depC m N mark:=h
       by_cases h2:m=N
       . subst h2
         rw[depC_all]at h
         cases mark with
         | true=>exact h1 ⟨rfl,rfl⟩
         | false=>exact absurd h (by decide)
       . rw[depC,if_neg h2,dif_pos (by omega)]at h
         omega
 | succ c ih =>
   intro n old m N mark f sh p hc h hf ha hs hl hm hN hN2
   obtain⟨d,rfl⟩:∃d,n=d+1:=⟨n-1,by omega⟩
   have l1:=b16t hf
   have l2:=H.bytes_all old
   have hL:=dgL_length p
   by_cases h1:m=N/\mark=true
   . obtain⟨rfl,rfl⟩:=h1
     refine⟨old,old,decide (p.length=0),?_,⟨hf,hf⟩,⟨fun h=>by rw[depC_all];exact of_decide_eq_true h,fun h=>by rw[depC_all]at h;exact decide_eq_true h⟩,fun _=>by rw[clc,clC_all];rfl⟩
     rw[zad (fd:=zfp) rfl]
     by_cases h0:p.length=0
     . rw[decide_eq_true h0]
       simp(disch:=(fail_if_success intro _);omega) only[go_sem,simprocAttr,↓Nat.reduceEqDiff,xx,zfp,m143,↓out16_eq,hL,l1,l2,hf,H.oo,zaa]
     . rw[decide_eq_false h0]
       simp(disch:=(fail_if_success intro _);omega) only[go_sem,simprocAttr,↓Nat.reduceEqDiff,xx,zfp,m143,↓out16_eq,hL,l1,l2,hf,H.oo,zaa]
   by_cases hp:p=[]
   . subst hp
     refine⟨z16,z16,false,?_,⟨rfl,rfl⟩,⟨(fun h=>by cases h),fun h=> ?_⟩,(fun h=>by cases h)⟩
     . have e0:dgL []=[]:=rfl
       rw[zad (fd:=zfp) rfl]
       show _=some (AV.agg [.agg H.out16l,.agg H.out16l,_],_,_)
       by_cases h2:m=N
       . have hk:mark=false:=by cases mark<;>simp_all
         subst h2 hk
         simp(disch:=(fail_if_success intro _);omega) only[go_sem,simprocAttr,↓Nat.reduceEqDiff,xx,zfp,m143,↓out16_eq,e0,l1,l2,hf,H.oo,zaa]
       . simp(disch:=(fail_if_success intro _);omega) only[go_sem,simprocAttr,↓Nat.reduceEqDiff,xx,zfp,m143,↓out16_eq,e0,l1,l2,hf,H.oo,zaa]
     . exfalso
       have h:0=depC m N mark:=h
       by_cases h2:m=N
       . subst h2
         rw[depC_all]at h
         cases mark with
         | true=>exact h1 ⟨rfl,rfl⟩
         | false=>exact absurd h (by decide)
       . rw[depC,if_neg h2,dif_pos (by omega)]at h
         omega
   have hp0:p.length≠0:=fun e=>hp (List.length_eq_zero_iff.1 e)
   obtain rfl:sh=sB:=hs.resolve_left hp
   have hA:=dgL_at (l:=p) (i:=p.length-1) (by omega)
   rw[zeq z16 hp]at hA
   have hD:=ze2 p
   have q1:=zcd ha
   have q2:=H.bytes_all (p.getLastD z16)
   have hdl:p.dropLast.length=p.length-1:=List.length_dropLast
   have hL2:=dgL_length p.dropLast
   by_cases hmN:m=N
   . have hk:mark=false:=by cases mark<;>simp_all
     subst hmN hk
     refine⟨p.getLastD z16,p.getLastD z16,decide (p.length-1=0),?_,⟨q1,q1⟩,⟨fun h=> ?_,fun h=> ?_⟩,fun _=>by rw[clc,clC_all];rfl⟩
     . clear ih hs ha
       generalize p.getLastD z16=last at *
       generalize p.dropLast=p' at *
       obtain⟨w,hw⟩:∃w,p.length=w+1:=⟨p.length-1,by omega⟩
       rw[hw]at hL hA hD hdl ⊢
       rw[Nat.add_sub_cancel]at hA hD hdl ⊢
       rw[hdl]at hL2
       rw[zad (fd:=zfp) rfl]
       by_cases h0:w=0
       . rw[decide_eq_true h0]
         simp(disch:=(fail_if_success intro _);omega) only[go_sem,simprocAttr,↓Nat.reduceEqDiff,xx,zfp,m143,↓out16_eq,hL,hL2,hA,hD,l1,l2,hf,q1,q2,zcx,Nat.sub_zero,List.drop_zero,Nat.add_sub_cancel,H.oo,zaa]
       . rw[decide_eq_false h0]
         simp(disch:=(fail_if_success intro _);omega) only[go_sem,simprocAttr,↓Nat.reduceEqDiff,xx,zfp,m143,↓out16_eq,hL,hL2,hA,hD,l1,l2,hf,q1,q2,zcx,Nat.sub_zero,List.drop_zero,Nat.add_sub_cancel,H.oo,zaa]
     . have:=of_decide_eq_true h
       rw[depC_all];show p.length=1;omega
     . rw[depC_all]at h
       have h:p.length=1:=h
       exact decide_eq_true (by omega)
   have h2:2<=N:=by omega
   have hk:=zdi h2
   have hpos:=zc4 N
   have k:=@rsplit_at gl d (by omega) N h2 (by omega)
   by_cases hlo:m<=spl N
   . obtain⟨A,B,ok,a,⟨g1,g1'⟩,g2,g3⟩:=@ih d old m (spl N) mark (f&&(p.length-1==p.length)) sB p.dropLast (by omega) (by omega) hf ha.dropLast (.inr rfl) (by omega) hm hlo (by omega)
     have nd1:=@zio gl d _ (by omega) B (p.getLastD z16) g1' q1
     have nl:=zcv B (p.getLastD z16)
     have nq:=H.bytes_all (nd B (p.getLastD z16))
     have gq:=H.bytes_all A
     have gq':=H.bytes_all B
     refine⟨A,nd B (p.getLastD z16),ok,?_,⟨g1,nl⟩,?_,?_⟩
     . clear ih g2 g3 hs ha
       generalize nd B (p.getLastD z16)=r at *
       generalize p.getLastD z16=last at *
       generalize p.dropLast=p' at *
       obtain⟨w,hw⟩:∃w,p.length=w+1:=⟨p.length-1,by omega⟩
       rw[hw]at hL hA hD a hdl
       rw[Nat.add_sub_cancel]at hA hD a hdl
       rw[zad (fd:=zfp) rfl]
       simp(maxSteps:=1000000) (disch:=(fail_if_success intro _);omega) only[go_sem,simprocAttr,↓Nat.reduceEqDiff,xx,zfp,m143,↓out16_eq,hL,hA,hD,k,a,nd1,l1,l2,hf,q1,q2,g1,gq,g1',gq',nl,nq,zcx,Nat.sub_zero,List.drop_zero,Nat.add_sub_cancel,H.oo,zaa]
     . rw[g2,depC_lo h2 hmN hlo,hdl];omega
     . intro hok
       have e:=g3 hok
       rw[clc]at e
       rw[clc,clC_lo h2 hmN hlo,<-e]
   . obtain⟨A,B,ok,a,⟨g1,g1'⟩,g2,g3⟩:=@ih d old (m-spl N) (N-spl N) false (f&&(p.length-1==p.length)) sB p.dropLast (by omega) (by omega) hf ha.dropLast (.inr rfl) (by omega) (by omega) (by omega) (by omega)
     have nd1:=@zio gl d _ (by omega) (p.getLastD z16) A q1 g1
     have nd2:=@zio gl d _ (by omega) (p.getLastD z16) B q1 g1'
     have nl:=zcv (p.getLastD z16) A
     have nq:=H.bytes_all (nd (p.getLastD z16) A)
     have nl':=zcv (p.getLastD z16) B
     have nq':=H.bytes_all (nd (p.getLastD z16) B)
     have gq:=H.bytes_all A
     have gq':=H.bytes_all B
     have e1:(m:Int)-(spl N:Int)=((m-spl N:Nat):Int):=by omega
     have e2:(N:Int)-(spl N:Int)=((N-spl N:Nat):Int):=by omega
     rw[<-e1,<-e2]at a
     refine⟨nd (p.getLastD z16) A,nd (p.getLastD z16) B,ok,?_,⟨nl,nl'⟩,?_,?_⟩
     . clear ih g2 g3 hs ha
       generalize nd (p.getLastD z16) A=r at *
       generalize nd (p.getLastD z16) B=r' at *
       generalize p.getLastD z16=last at *
       generalize p.dropLast=p' at *
       obtain⟨w,hw⟩:∃w,p.length=w+1:=⟨p.length-1,by omega⟩
       rw[hw]at hL hA hD a hdl
       rw[Nat.add_sub_cancel]at hA hD a hdl
       clear e1 e2
       generalize spl N=z at *
       rw[zad (fd:=zfp) rfl]
       simp(maxSteps:=1000000) (disch:=(fail_if_success intro _);omega) only[go_sem,simprocAttr,↓Nat.reduceEqDiff,xx,zfp,m143,↓out16_eq,hL,hA,hD,k,a,nd1,nd2,l1,l2,hf,q1,q2,g1,gq,g1',gq',nl,nq,nl',nq',zcx,Nat.sub_zero,List.drop_zero,Nat.add_sub_cancel,H.oo,zaa]
     . rw[g2,depC_hi h2 hmN hlo,hdl];omega
     . intro hok
       have e:=g3 hok
       rw[clc]at e
       rw[clc,clC_hi h2 hmN hlo,<-e]
end
end Go.Proofs.S44.M
namespace Go.Proofs.S44.L
open Go Go.Ev Go.Proofs Go.Proofs.S44
open Go.Proofs.S44.H (GlK GlR)
open Go.Proofs.S44.M (Dg dgL dgL_length All16 Sd sB)
variable {gl :Gl} {n:Nat}
section
variable {leaf old root:Dg} {i m N:Int} {f:Bool} {sh:Sh} {p:List Dg}
theorem rckI_at [Nonempty (GlR gl)](h:2000<=n)(hf:leaf.length=16)(hr:root.length=16)(ha:All16 p)(hl:p.length<=1000)(hs:Sd p sh sB) :
  call gl tab n 25 [bAV leaf,i64 i,i64 N,.lst f sh (dgL p),bAV root] []=some (.bool (ckI leaf i N p root),[],[]):=by
 obtain⟨d,rfl⟩:=Nat.exists_eq_add_of_le' h
 have l1:=b16 hf
 have l2:=H.bytes_all leaf
 have r1:=b16 hr
 have r2:=H.bytes_all root
 rw[zad (fd:=fd25) rfl]
 by_cases hb:N<1\/N>1099511627776\/i<0\/i>=N
 . rw[ckI,decide_eq_false (fun h=>h.1 hb)]
   by_cases h1:N<1
   . simp(disch:=(fail_if_success intro _);omega) only[go_sem,simprocAttr,↓Nat.reduceEqDiff,xx,fd25,m25,↓out16_eq,l1,l2,r1,r2,H.oo]
   by_cases h2:N>1099511627776
   . simp(disch:=(fail_if_success intro _);omega) only[go_sem,simprocAttr,↓Nat.reduceEqDiff,xx,fd25,m25,↓out16_eq,l1,l2,r1,r2,H.oo]
   by_cases h3:i<0
   . simp(disch:=(fail_if_success intro _);omega) only[go_sem,simprocAttr,↓Nat.reduceEqDiff,xx,fd25,m25,↓out16_eq,l1,l2,r1,r2,H.oo]
   have h4:i>=N:=by omega
   simp(disch:=(fail_if_success intro _);omega) only[go_sem,simprocAttr,↓Nat.reduceEqDiff,xx,fd25,m25,↓out16_eq,l1,l2,r1,r2,H.oo]
 . obtain⟨i,rfl⟩:=Int.eq_ofNat_of_zero_le (show 0<=i by omega)
   obtain⟨N,rfl⟩:=Int.eq_ofNat_of_zero_le (show 0<=N by omega)
   obtain⟨D,ok,c,g1,g2,g3⟩:=M.rclimb_at (gl:=gl) 1000 (n:=d+1999) i N f sh p hl (by omega) hf ha hs (by omega) (by omega) (by omega) (by omega)
   have q:=eqB g1 hr
   have gq:=H.bytes_all D
   have e:ckI leaf (i:Int) (N:Int) p root=(ok&&decide (D=root)):=by
    rw[ckI,Bool.eq_iff_iff,decide_eq_true_eq,Bool.and_eq_true,decide_eq_true_eq,Int.toNat_natCast,Int.toNat_natCast]
    constructor
    . rintro ⟨_,h1,h2⟩
      have:=g2.2 h1
      exact⟨this,by rw[g3 this];exact h2⟩
    . rintro ⟨h1,h2⟩
      exact⟨hb,g2.1 h1,by rw[<-g3 h1];exact h2⟩
   rw[e]
   clear e g2 g3
   cases ok
   . simp(disch:=(fail_if_success intro _);omega) only[go_sem,simprocAttr,↓Nat.reduceEqDiff,xx,fd25,m25,↓out16_eq,l1,l2,r1,r2,c,g1,gq,hr,q,zaa,H.oo]
   . simp(disch:=(fail_if_success intro _);omega) only[go_sem,simprocAttr,↓Nat.reduceEqDiff,xx,fd25,m25,↓out16_eq,l1,l2,r1,r2,c,g1,gq,hr,q,zaa,H.oo]
def ckC (m N:Int)(old root:Dg)(p:List Dg):Bool :=
 decide (¬(m<0\/m>N\/N>1099511627776)/\if m=0 then p.length=0/\old=M.em else p.length=Mk.depC m.toNat N.toNat true/\M.clc old m.toNat N.toNat true p=(old,root))
theorem ckC_at [Nonempty (GlK gl)](h:60<=n)(hf:old.length=16)(hr:root.length=16)(ha:All16 p)(hl:p.length<=1000000)(hs:Sd p sh sB) :
  call gl tab n 96 [i64 m,i64 N,bAV old,bAV root,.lst f sh (dgL p)] []=some (.bool (ckC m N old root p),[],[]):=by
 by_cases hb:m<0\/m>N\/N>1099511627776
 . rw[ckC,decide_eq_false (fun h=>h.1 hb)]
   exact M.checkC_bad (by omega) hb hf hr
 . obtain⟨m,rfl⟩:=Int.eq_ofNat_of_zero_le (show 0<=m by omega)
   obtain⟨N,rfl⟩:=Int.eq_ofNat_of_zero_le (show 0<=N by omega)
   by_cases h0:m=0
   . subst h0
     have:=M.checkC_zero (gl:=gl) h (old:=old) (root:=root) (N:=N) (f:=f) (sh:=sh) (p:=p) (by omega) hf hr hl
     have e0:((0:Nat):Int)=0:=rfl
     rw[e0]at hb ⊢
     rw[this,ckC]
     congr 3
     rw[Bool.eq_iff_iff,decide_eq_true_eq,decide_eq_true_eq,if_pos rfl]
     exact⟨fun h=>⟨hb,h⟩,fun h=>h.2⟩
   . have:=M.checkC_ok (gl:=gl) h (old:=old) (root:=root) (m:=m) (N:=N) (f:=f) (by omega) (by omega) (by omega) hf hr ha hl hs
     rw[this,ckC]
     congr 3
     rw[Bool.eq_iff_iff,decide_eq_true_eq,decide_eq_true_eq,if_neg (by omega),Int.toNat_natCast,Int.toNat_natCast]
     exact⟨fun h=>⟨hb,h⟩,fun h=>h.2⟩
theorem rckC_at [Nonempty (GlR gl)](h:2000<=n)(hf:old.length=16)(hr:root.length=16)(ha:All16 p)(hl:p.length<=1000)(hs:Sd p sh sB) :
  call gl tab n 97 [i64 m,i64 N,bAV old,bAV root,.lst f sh (dgL p)] []=some (.bool (ckC m N old root p),[],[]):=by
 obtain⟨d,rfl⟩:=Nat.exists_eq_add_of_le' h
 have l1:=b16 hf
 have l2:=H.bytes_all old
 have r1:=b16 hr
 have r2:=H.bytes_all root
 have hL:=dgL_length p
 rw[zad (fd:=fd97) rfl]
 by_cases hb:m<0\/m>N\/N>1099511627776
 . rw[ckC,decide_eq_false (fun h=>h.1 hb)]
   by_cases h1:m<0
   . simp(disch:=(fail_if_success intro _);omega) only[go_sem,simprocAttr,↓Nat.reduceEqDiff,xx,fd97,m97,↓out16_eq,l1,l2,r1,r2,H.oo]
   by_cases h2:m>N
   . simp(disch:=(fail_if_success intro _);omega) only[go_sem,simprocAttr,↓Nat.reduceEqDiff,xx,fd97,m97,↓out16_eq,l1,l2,r1,r2,H.oo]
   have h3:N>1099511627776:=by omega
   simp(disch:=(fail_if_success intro _);omega) only[go_sem,simprocAttr,↓Nat.reduceEqDiff,xx,fd97,m97,↓out16_eq,l1,l2,r1,r2,H.oo]
 obtain⟨m,rfl⟩:=Int.eq_ofNat_of_zero_le (show 0<=m by omega)
 obtain⟨N,rfl⟩:=Int.eq_ofNat_of_zero_le (show 0<=N by omega)
 by_cases h0:m=0
 . subst h0
   have e0:((0:Nat):Int)=0:=rfl
   rw[e0]at hb ⊢
   have c:=@M.rempty_at gl (d+1999) _ (by omega)
   have em16:M.em.length=16:=H.dig_len _
   have q:=eqB hf em16
   have eq:=H.bytes_all M.em
   have e:ckC 0 (N:Int) old root p=(decide (p.length=0)&&decide (old=M.em)):=by
    rw[ckC,Bool.eq_iff_iff,decide_eq_true_eq,Bool.and_eq_true,decide_eq_true_eq,decide_eq_true_eq,if_pos rfl]
    exact⟨fun h=>h.2,fun h=>⟨hb,h⟩⟩
   rw[e]
   clear e
   generalize M.em=em at *
   by_cases hp:p.length=0
   . rw[decide_eq_true hp]
     simp(disch:=(fail_if_success intro _);omega) only[go_sem,simprocAttr,↓Nat.reduceEqDiff,xx,fd97,m97,↓out16_eq,l1,l2,r1,r2,hL,c,em16,eq,hf,q,zaa,H.oo]
   . rw[decide_eq_false hp]
     simp(disch:=(fail_if_success intro _);omega) only[go_sem,simprocAttr,↓Nat.reduceEqDiff,xx,fd97,m97,↓out16_eq,l1,l2,r1,r2,hL,c,em16,eq,hf,q,zaa,H.oo]
 . by_cases h1:m=N
   . subst h1
     have q:=eqB hf hr
     have e:ckC (m:Int) (m:Int) old root p=(decide (p.length=0)&&decide (old=root)):=by
      rw[ckC,Bool.eq_iff_iff,decide_eq_true_eq,Bool.and_eq_true,decide_eq_true_eq,decide_eq_true_eq,if_neg (by omega),Int.toNat_natCast,Mk.depC_all,M.clc,Mk.clC_all]
      constructor
      . rintro ⟨_,h1,h2⟩
        exact⟨h1,(Prod.mk.inj h2).2⟩
      . rintro ⟨h1,h2⟩
        exact⟨hb,h1,by rw[h2];rfl⟩
     rw[e]
     clear e
     by_cases hp:p.length=0
     . rw[decide_eq_true hp]
       simp(disch:=(fail_if_success intro _);omega) only[go_sem,simprocAttr,↓Nat.reduceEqDiff,xx,fd97,m97,↓out16_eq,l1,l2,r1,r2,hL,hf,hr,q,zaa,H.oo]
     . rw[decide_eq_false hp]
       simp(disch:=(fail_if_success intro _);omega) only[go_sem,simprocAttr,↓Nat.reduceEqDiff,xx,fd97,m97,↓out16_eq,l1,l2,r1,r2,hL,hf,hr,q,zaa,H.oo]
   . obtain⟨A,B,ok,c,⟨g1,g1'⟩,g2,g3⟩:=M.rboth_at (gl:=gl) 1000 (n:=d+1999) (old:=old) m N true f sh p hl (by omega) hf ha hs (by omega) (by omega) (by omega) (by omega)
     have q:=eqB g1 hf
     have q':=eqB g1' hr
     have gq:=H.bytes_all A
     have gq':=H.bytes_all B
     have e:ckC (m:Int) (N:Int) old root p=(ok&&(decide (A=old)&&decide (B=root))):=by
      rw[ckC,Bool.eq_iff_iff,decide_eq_true_eq,Bool.and_eq_true,Bool.and_eq_true,decide_eq_true_eq,decide_eq_true_eq,if_neg (by omega),Int.toNat_natCast,Int.toNat_natCast]
      constructor
      . rintro ⟨_,h1,h2⟩
        have:=g2.2 h1
        have e:=(g3 this).trans h2
        exact⟨this,(Prod.mk.inj e).1,(Prod.mk.inj e).2⟩
      . rintro ⟨h1,h2,h3⟩
        exact⟨hb,g2.1 h1,by rw[<-g3 h1,h2,h3]⟩
     rw[e]
     clear e g2 g3
     cases ok
     . simp(disch:=(fail_if_success intro _);omega) only[go_sem,simprocAttr,↓Nat.reduceEqDiff,xx,fd97,m97,↓out16_eq,l1,l2,r1,r2,c,g1,gq,g1',gq',hf,hr,q,q',zaa,H.oo]
     . by_cases k:A=old
       . rw[decide_eq_true k]
         rw[decide_eq_true k]at q
         simp(disch:=(fail_if_success intro _);omega) only[go_sem,simprocAttr,↓Nat.reduceEqDiff,xx,fd97,m97,↓out16_eq,l1,l2,r1,r2,c,g1,gq,g1',gq',hf,hr,q,q',zaa,H.oo]
       . rw[decide_eq_false k]
         rw[decide_eq_false k]at q
         simp(disch:=(fail_if_success intro _);omega) only[go_sem,simprocAttr,↓Nat.reduceEqDiff,xx,fd97,m97,↓out16_eq,l1,l2,r1,r2,c,g1,gq,g1',gq',hf,hr,q,q',zaa,H.oo]
end
end Go.Proofs.S44.L
