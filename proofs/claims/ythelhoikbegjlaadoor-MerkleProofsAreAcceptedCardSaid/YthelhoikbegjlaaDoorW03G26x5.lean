/-
  Chapter 3: the checks accept the proofs, and refuse other roots. No condition.
-/
import Derived.Test.YthelhoikbegjlaaDoorW03G25x5
set_option linter.unusedVariables false
set_option linter.unusedSimpArgs false
set_option linter.unusedSectionVars false
namespace Go.Proofs.S03
open Go Go.Ev Go.Proofs Go.Mk
open Go.Proofs.S03.H (GlK GlR)
variable {gl :Gl} {n:Nat}
def cp (l:List Dg)(m:Nat):List Dg:=if m=0 then []else cons nd em l m true
theorem cp_all {l:List Dg}{m:Nat}(ha:All16 l)(hm:m<=l.length):All16 (cp l m):=by
 unfold cp
 by_cases h:m=0
 . rw[if_pos h];exact All16.nil
 . rw[if_neg h];exact cons_all16 _ l m true (Nat.le_refl _) (by omega) hm ha
theorem cp_le {l:List Dg}{m:Nat}(hm:m<=l.length):(cp l m).length<=l.length:=by
 unfold cp
 by_cases h:m=0
 . rw[if_pos h];simp
 . rw[if_neg h];exact cons_le _ l m true (Nat.le_refl _) (by omega) hm
section
variable [Nonempty (GlK gl)]
theorem cp_at (h:1000<=n){l:List Dg}(ha:All16 l)(h1:1<=l.length)(hl:l.length<=900){m:Nat}(hm:m<=l.length) :
  call gl tab n 11 [.lst false sB (dgL l),i64 m] []=some (.tup [.sl 20000 [] 0 (cp l m).length,i64 0],[],[.grow sB (dgL (cp l m))]):=by
 by_cases h0:m=0
 . rw[cp,if_pos h0]
   exact consistency_end (by omega) (by omega) (.inl h0)
 . by_cases h2:m=l.length
   . rw[cp,if_neg h0]
     have e:=consistency_end (gl:=gl) (n:=n) (f:=false) (sh:=sB) (by omega) (show l.length<=1000000 by omega) (.inr h2)
     rw[e,h2,cons_all];rfl
   . rw[cp,if_neg h0]
     exact consistency_ok h ha hl (by omega) (by omega) (.inr rfl)
theorem accI2 (h:60<=n){l:List Dg}{i:Nat}(ha:All16 l)(hl:l.length<=900)(hi:i<l.length) :
  call gl tab n 25 [bAV (dgA l i),i64 i,i64 l.length,.lst false sB (dgL (incl nd em l i)),bAV (rt nd em l)] []=some (.bool true,[],[]):=by
 have:=incl_le _ l i (Nat.le_refl _)
 rw[checkI_ok (by omega) (by omega) (by omega) hi (ha.at hi) (rt_len ha) (incl_all _ l i (Nat.le_refl _) ha) (by omega) (.inr rfl)]
 obtain⟨h1,h2⟩:=@incl_ok Dg nd em z16 _ l i (Nat.le_refl _) hi
 have e0:dgA l i=l.getD i em:=by rw[dgA,List.getD_eq_getElem?_getD,List.getD_eq_getElem?_getD,List.getElem?_eq_getElem hi];rfl
 rw[e0,decide_eq_true ⟨h1,h2⟩]
theorem accM2 (h:60<=n){l:List Dg}{ps:List Nat}(ha:All16 l)(h1:1<=l.length)(hl:l.length<=900)(hA:Asc ps 0 l.length)(hpl:ps.length<=1000000) :
  call gl tab n 23 [i64 l.length,.lst false .sc (pN ps),.lst false sB (dgL (fnd l ps)),.lst false sB (dgL (mn l 0 ps)),bAV (rt nd em l)] []=some (.bool true,[],[]):=by
 have:=mn_le _ l 0 ps (Nat.le_refl _) h1
 rw[checkM_ok (by omega) h1 (by omega) (rt_len ha) (mn_all _ l 0 ps (Nat.le_refl _) h1 ha) (by omega) (.inr rfl) (fnd_all ha) (by simp[fnd]) (.inr rfl) hpl (.inr rfl) hA]
 obtain⟨h3,h4⟩:=@mny_ok Dg nd em z16 _ l 0 ps [] [] (Nat.le_refl _) h1 hA
 simp only[List.append_nil,Nat.sub_zero]at h4
 rw[decide_eq_true ⟨h3,by rw[wk,fnd,h4]⟩]
theorem cpO (h:60<=n){l:List Dg}{m:Nat}{o r:Dg}(ha:All16 l)(h1:1<=l.length)(hl:l.length<=900)(hm:m<=l.length)(hr:r.length=16)(ho:o.length=16) :
  call gl tab n 26 [i64 m,i64 l.length,bAV o,bAV r,.lst false sB (dgL (cp l m))] [] =
   some (.bool (if m=0 then decide (o=em)else decide ((cons nd em l m true).length=depC m l.length true/\clc o m l.length true (cons nd em l m true)=(o,r))),[],[]):=by
 have:=cp_le hm
 by_cases h0:m=0
 . subst h0
   rw[if_pos rfl]
   have e:=@checkC_zero gl n _ h o r l.length false sB (cp l 0) (by omega) ho hr (by omega)
   rw[show decide ((cp l 0).length=0/\o=em)=decide (o=em)from decide_eq_decide.2 ⟨fun h=>h.2,fun h=>⟨rfl,h⟩⟩]at e
   exact e
 . rw[if_neg h0]
   have e:cp l m=cons nd em l m true:=by rw[cp,if_neg h0]
   rw[e]at this
   rw[e,checkC_ok (by omega) (by omega) hm (by omega) ho hr (by rw[<-e];exact cp_all ha hm) (by omega) (.inr rfl)]
theorem accC2 (h:60<=n){l:List Dg}{m:Nat}(ha:All16 l)(h1:1<=l.length)(hl:l.length<=900)(hm:m<=l.length) :
  call gl tab n 26 [i64 m,i64 l.length,bAV (rt nd em (l.take m)),bAV (rt nd em l),.lst false sB (dgL (cp l m))] []=some (.bool true,[],[]):=by
 rw[cpO h ha h1 hl hm (rt_len ha) (rt_len (ha.take _))]
 by_cases h0:m=0
 . subst h0;rw[if_pos rfl,List.take_zero,rt_nil,decide_eq_true rfl]
 . rw[if_neg h0]
   obtain⟨h3,h4⟩:=@cons_ok Dg nd em z16 (rt nd em (l.take m)) _ l m true (Nat.le_refl _) (by omega) hm (fun _ _=>rfl)
   rw[decide_eq_true ⟨h3,h4⟩]
theorem accR (h:60<=n){l:List Dg}{m:Nat}{o:Dg}(ha:All16 l)(h1:1<=l.length)(hl:l.length<=900)(hm:m<=l.length)(hm1:1<=m)(ho:o.length=16) :
  call gl tab n 26 [i64 m,i64 l.length,bAV (rt nd em (l.take m)),bAV o,.lst false sB (dgL (cp l m))] []=some (.bool (decide (o=rt nd em l)),[],[]):=by
 rw[cpO h ha h1 hl hm ho (rt_len (ha.take _)),if_neg (by omega)]
 obtain⟨h3,h4⟩:=@cons_ok Dg nd em z16 (rt nd em (l.take m)) _ l m true (Nat.le_refl _) (by omega) hm (fun _ _=>rfl)
 rw[clc,h4,decide_eq_decide.2 ⟨fun h=>(Prod.mk.inj h.2).2.symm,fun h=>⟨h3,by rw[h]⟩⟩]
theorem accO (h:60<=n){l:List Dg}{m:Nat}{o:Dg}(ha:All16 l)(h1:1<=l.length)(hl:l.length<=900)(hm:m<=l.length)(hp:m=l.length\/∀k,m≠2^k)(ho:o.length=16) :
  call gl tab n 26 [i64 m,i64 l.length,bAV o,bAV (rt nd em l),.lst false sB (dgL (cp l m))] []=some (.bool (decide (o=rt nd em (l.take m))),[],[]):=by
 rw[cpO h ha h1 hl hm (rt_len ha) ho]
 by_cases h0:m=0
 . subst h0;rw[if_pos rfl,List.take_zero,rt_nil]
 . rw[if_neg h0]
   by_cases h2:m=l.length
   . subst h2
     rw[clc_all,depC_all,cons_all,List.take_length]
     exact congrArg (fun b=>some (AV.bool b,[],[])) (decide_eq_decide.2 ⟨fun h=>(Prod.mk.inj h.2).2,fun h=>⟨rfl,by rw[h];rfl⟩⟩)
   . obtain⟨h3,h4⟩:=@cons_ok Dg nd em z16 o _ l m true (Nat.le_refl _) (by omega) hm (fun _ hk=>by
      obtain⟨k,hk⟩:=mrk_pow _ l.length m (Nat.le_refl _) (by omega) (by omega) hk
      rcases hp with hp|hp
      . exact absurd hp h2
      . exact absurd hk (hp k))
     rw[clc,h4,decide_eq_decide.2 ⟨fun h=>(Prod.mk.inj h.2).1.symm,fun h=>⟨h3,by rw[h]⟩⟩]
end
def bitc (x:BitVec 64)(k:Nat):Bool:=(x>>>k)&&&1#64==1#64
def plc (x:BitVec 64):Nat->List Nat
 | 0=>[]
 | k+1=>if bitc x k then plc x k++[k]else plc x k
theorem plc_asc (x:BitVec 64):∀k,Asc (plc x k) 0 k
 | 0=>⟨List.Pairwise.nil,fun _ h=>by cases h⟩
 | k+1=>by
   have ih:=plc_asc x k
   unfold plc
   by_cases h:bitc x k=true
   . rw[if_pos h]
     refine⟨List.pairwise_append.2 ⟨ih.so,List.pairwise_singleton _ _,fun a ha b hb=> ?_⟩,fun y hy=> ?_⟩
     . rw[List.mem_singleton]at hb;subst hb
       have:=(ih.wi a ha).2;omega
     . rcases List.mem_append.1 hy with hy|hy
       . have:=(ih.wi y hy).2;omega
       . rw[List.mem_singleton]at hy;subst hy;omega
   . rw[if_neg h]
     exact⟨ih.so,fun y hy=>by have:=(ih.wi y hy).2;omega⟩
theorem plc_len (x:BitVec 64):∀k,(plc x k).length<=k
 | 0=>Nat.le_refl _
 | k+1=>by
   have ih:=plc_len x k
   unfold plc
   by_cases h:bitc x k=true
   . rw[if_pos h,List.length_append,List.length_singleton];omega
   . rw[if_neg h];omega
theorem fnd_app (l:List Dg)(ps:List Nat){k:Nat}(hk:k<l.length):fnd l (ps++[k])=fnd l ps++[dgA l k]:=by
 simp[fnd,dgA,hk]
theorem fnd_len (l:List Dg)(ps:List Nat):(fnd l ps).length=ps.length:=by simp[fnd]
end Go.Proofs.S03
namespace Go.Proofs.S03
open Go Go.Ev Go.Proofs Go.Mk
open Go.Proofs.S03.H (GlK GlR)
variable {gl :Gl} {n:Nat}
theorem remN (y z:Nat)(h:0<z):binInt .rem .i64 (y:Int) (z:Int)=some (i64 ((y%z:Nat):Int)):=by
 show(if(z:Int)=0 then none else some (AV.int .i64 (Int.tmod (y:Int) z)))=_
 rw[if_neg (by omega)];rfl
theorem kd_u64 {a:AV}(h:HasKd (.int .u64) a):∃c:BitVec 64,a= .int .u64 (c.toNat:Int):=by
 obtain⟨x,rfl,x1,x2⟩:=h
 have x3:0<=x:=x1
 have x4:x<=18446744073709551615:=x2
 refine⟨BitVec.ofNat 64 x.toNat,?_⟩
 rw[BitVec.toNat_ofNat,Nat.mod_eq_of_lt (by omega),Int.toNat_of_nonneg x3]
theorem ex_pow :∀f:Fin 42,∃J:Fin 7,(∀j:Fin 7,j.val<J.val->2^j.val<f.val)/\f.val<=2^J.val:=by decide +kernel
theorem ex_powN {F:Nat}(h:F<=41):∃J,J<=6/\(∀j,j<J->2^j<F)/\F<=2^J:=by
 obtain⟨J,h1,h2⟩:=ex_pow ⟨F,by omega⟩
 exact⟨J.val,by omega,fun j hj=>h1 ⟨j,by omega⟩ hj,h2⟩
theorem no_pow {F J:Nat}(h1:∀j,j<J->2^j<F)(h2:F<=2^J)(h:2^J≠F):∀k,F≠2^k:=fun k hk=>by
 by_cases h3:k<J
 . have:=h1 k h3;omega
 . have:2^J<=2^k:=Nat.pow_le_pow_right (by omega) (by omega)
   exact h (by omega)
def L5 :MC:=match m5 with| .seq _ (.seq _ (.seq _ (.seq _ (.seq _ (.seq _ (.seq _ (.seq _ (.seq _ (.seq _ (.seq _ (.seq (.seq _ (.block _ (.loop _ b))) _)))))))))))=>b|_=>.skip
def L5b :MC:=match m5 with| .seq _ (.seq _ (.seq _ (.seq _ (.seq _ (.seq _ (.seq _ (.seq _ (.seq _ (.seq _ (.seq _ (.seq _ (.seq _ (.seq _ (.seq _ (.seq (.block _ (.loop _ b)) _)))))))))))))))=>b|_=>.skip
abbrev K5 :List Kp:=[.slot 0,.slot 3,.slot 9,.slot 11,.slot 12,.slot 13,.slot 14,.slot 15,.slot 16,.slot 17,.slot 18,.slot 19,.own 20 5020 .sc,.own 21 5021 (.ar 16 .sc),.slot 22,.key 9,.key 14,.key 15,.key 53,.key 59]
def S5 (l:List Dg)(c:BitVec 64)(w a F:Nat)(p1 p2:List Dg)(o r q:Dg)(j:Nat):St :=
 ⟨[.set 22 (i64 j),.set 21 (.sl 5021 [] 0 (plc c j).length),.set 20 (.sl 5020 [] 0 (plc c j).length),.set 19 (i64 0),.set 18 (.sl 59 [] 0 p2.length),.set 17 (i64 0),.set 16 (.sl 53 [] 0 p1.length),.set 15 (.ptr 15 []),.set 14 (.ptr 14 []),.set 13 (i64 F),.set 12 (i64 a),.set 11 (i64 w),.set 9 (.ptr 9 []),.set 3 (.int .u64 (c.toNat:Int)),.set 0 (.lst false sB (dgL l))],
   [(59,.grow sB (dgL p2)),(53,.grow sB (dgL p1)),(15,.fix (.ar 16 .sc) (bAV q)),(14,.fix (.ar 16 .sc) (bAV r)),(9,.fix (.ar 16 .sc) (bAV o)),(5021,.grow sB (dgL (fnd l (plc c j)))),(5020,.grow .sc (pN (plc c j)))]⟩
theorem step5 {k:Nat}{l:List Dg}{c:BitVec 64}{a F:Nat}{p1 p2:List Dg}{o r q:Dg}(ha:All16 l)(hl:l.length<=40)(j:Nat)(hj:j<l.length) :
  contK K5 (evC gl (call gl tab k) L5 (S5 l c l.length a F p1 p2 o r q j))=some (S5 l c l.length a F p1 p2 o r q (j+1)):=by
 have hL:=dgL_length l
 have hx:=dgL_at hj
 have q1:=ha.at hj
 have q2:=H.bytes_all (dgA l j)
 have q3:=H.noImms_bytesAV (dgA l j)
 have hP:=pN_length (plc c j)
 have hF:=dgL_length (fnd l (plc c j))
 rw[fnd_len]at hF
 have hT:=pN_all (plc c j)
 have hG:List.take (plc c j).length (dgL (fnd l (plc c j)))=dgL (fnd l (plc c j)):=List.take_of_length_le (by omega)
 have n1:=pN_noImms (plc c j)
 have n2:=dgL_noImms (fnd l (plc c j))
 have hle:=plc_len c j
 have hlim:(plc c j).length+1<=LIM:=by unfold LIM;omega
 rw[S5,S5,plc]
 by_cases hb:bitc c j=true
 . rw[if_pos hb,fnd_app l _ hj,dgL_app,pN_app,List.length_append,List.length_singleton]
   have hb2:((c>>>j)&&&1#64==1#64)=true:=hb
   have b1:=b16t q1
   generalize plc c j=ps at *
   generalize dgL (fnd l ps)=fl at *
   generalize dgA l j=x at *
   simp(implicitDefEqProofs:=false) (disch:=((fail_if_success (intro _));omega)) only[go_sem,simprocAttr,↓reduceIte,↓Nat.reduceEqDiff,xx,L5,m5,hL,hx,q1,q2,q3,hP,hF,hT,hG,n1,n2,hb2,b1,sB_size]
 . rw[if_neg hb]
   have hb2:((c>>>j)&&&1#64==1#64)=false:=by unfold bitc at hb;exact Bool.eq_false_iff.2 hb
   generalize plc c j=ps at *
   generalize dgL (fnd l ps)=fl at *
   simp(implicitDefEqProofs:=false) (disch:=((fail_if_success (intro _));omega)) only[go_sem,simprocAttr,↓reduceIte,↓Nat.reduceEqDiff,xx,L5,m5,hL,hx,q1,q2,q3,hP,hF,hT,hG,n1,n2,hb2,sB_size]
def S5b (w F:Nat)(p2:List Dg)(o r q:Dg)(j:Nat):St :=
 ⟨[.set 25 (i64 ((2^j:Nat):Int)),.set 18 (.sl 59 [] 0 p2.length),.set 15 (.ptr 15 []),.set 14 (.ptr 14 []),.set 13 (i64 F),.set 11 (i64 w),.set 9 (.ptr 9 [])],
   [(59,.grow sB (dgL p2)),(15,.fix (.ar 16 .sc) (bAV q)),(14,.fix (.ar 16 .sc) (bAV r)),(9,.fix (.ar 16 .sc) (bAV o))]⟩
theorem step5b {k:Nat}{w F:Nat}{p2:List Dg}{o r q:Dg}(hF:F<=41){j:Nat}(hj:2^j<F) :
  contK [.slot 9,.slot 11,.slot 13,.slot 14,.slot 15,.slot 18,.slot 25,.key 9,.key 14,.key 15,.key 59] (evC gl (call gl tab k) L5b (S5b w F p2 o r q j))=some (S5b w F p2 o r q (j+1)):=by
 have e:((2^(j+1):Nat):Int)=2*((2^j:Nat):Int):=by rw[Nat.pow_succ];omega
 rw[S5b,S5b,e]
 generalize 2^j=x at *
 simp(disch:=((fail_if_success (intro _));omega)) only[go_sem,simprocAttr,↓reduceIte,↓Nat.reduceEqDiff,xx,L5b,m5]
section
variable [Nonempty (GlK gl)] [Nonempty (GlR gl)] [Nonempty (GlB gl)]
set_option maxHeartbeats 4000000 in
theorem law5 (hn:1001<=n)(ar:List AV)(h:HasKds [.sl kB,.int .u8,.int .u8,.int .u64,kB] ar):call gl tab (n+1) 5 ar []=some (.bool true,[],[]):=by
 simp only[HasKds]at h
 obtain⟨_,_,rfl,h1,_,_,rfl,h2,_,_,rfl,h3,_,_,rfl,h4,_,_,rfl,h5,rfl⟩:=h
 obtain⟨l,rfl,ha,hl0⟩:=kd_dgs h1
 obtain⟨i,rfl⟩:=byte_of h2
 obtain⟨m,rfl⟩:=byte_of h3
 obtain⟨c,rfl⟩:=kd_u64 h4
 obtain⟨o,rfl,ho⟩:=kd_B h5
 clear h1 h2 h3 h4 h5
 have c9:=@sanity_at gl n _ _ _ hn
 have o1:=H.bytes_all o
 have hL:=dgL_length l
 have i1:=i.toNat_lt
 have m1:=m.toNat_lt
 generalize i.toNat=i at *
 generalize m.toNat=m at *
 rw[call_go (fd:=fd5) rfl]
 by_cases g0:l.length=0
 . simp(disch:=((fail_if_success (intro _));omega)) only[go_sem,simprocAttr,↓reduceIte,↓Nat.reduceEqDiff,xx,fd5,m5,c9,hL,ho,o1,g0]
 by_cases g1:l.length<=40
 case neg=>simp(disch:=((fail_if_success (intro _));omega)) only[go_sem,simprocAttr,↓reduceIte,↓Nat.reduceEqDiff,xx,fd5,m5,c9,hL,ho,o1,↓out16_eq]
 have r1:=remN i l.length (by omega)
 have r2:=remN m (l.length+1) (by omega)
 have r3:=Nat.mod_lt i (show 0<l.length by omega)
 have r4:=Nat.mod_lt m (show 0<l.length+1 by omega)
 have eN:((l.length+1:Nat):Int)=(l.length:Int)+1:=by omega
 rw[eN]at r2
 generalize i%l.length=a at *
 generalize m%(l.length+1)=F at *
 have t1:=root_at (gl:=gl) (n:=n) 40 l false sB g1 (by omega) ha (by omega) (.inr rfl)
 have t2:=root_at (gl:=gl) (n:=n) 40 (l.take F) false sB (by rw[List.length_take];omega) (by omega) (ha.take _) (by rw[List.length_take];omega) (.inr rfl)
 rw[<-dgL_take]at t2
 have u1:=inclusion_ok (gl:=gl) (n:=n) (by omega) ha (by omega) r3 (f:=false) (.inr rfl)
 have u2:=cp_at (gl:=gl) (n:=n) (by omega) ha (by omega) (by omega) (show F<=l.length by omega)
 have u3:=many_ok (gl:=gl) (n:=n) (f:=false) (f':=false) (sh':=.sc) (by omega) ha (by omega) (by omega) (.inr rfl) (show(plc c l.length).length<=1000000 by have:=plc_len c l.length;omega) (.inr rfl) (plc_asc c l.length)
 have v1:=accI2 (gl:=gl) (n:=n) (by omega) ha (by omega) r3
 have v2:=accC2 (gl:=gl) (n:=n) (by omega) ha (by omega) (by omega) (show F<=l.length by omega)
 have v3:=accM2 (gl:=gl) (n:=n) (by omega) ha (by omega) (by omega) (plc_asc c l.length) (by have:=plc_len c l.length;omega)
 have w1:=accR (gl:=gl) (n:=n) (m:=F) (o:=o) (by omega) ha (by omega) (by omega) (by omega)
 have w2:=accO (gl:=gl) (n:=n) (m:=F) (o:=o) (by omega) ha (by omega) (by omega) (by omega)
 obtain⟨J,j1,j2,j3⟩:=ex_powN (show F<=41 by omega)
 have j4:=no_pow j2 j3
 have z1:=rt_len ha
 have z2:=rt_len (ha.take F)
 have z3:=H.bytes_all (rt nd em l)
 have z4:=H.bytes_all (rt nd em (l.take F))
 have e1:=eqB ho z1
 have e2:=eqB ho z2
 have st:=fun j hj=>@step5 gl n l c a F (incl nd em l a) (cp l F) o (rt nd em l) (rt nd em (l.take F)) ha g1 j hj
 have st2:=fun j hj=>@step5b gl n l.length F (cp l F) o (rt nd em l) (rt nd em (l.take F)) (by omega) j (j2 j hj)
 simp only[L5,L5b,m5,↓out16_eq]at st st2
 have lI:=dgL_length (incl nd em l a)
 have lC:=dgL_length (cp l F)
 have tI:=dgL_all (incl nd em l a)
 have tC:=dgL_all (cp l F)
 have w1:=fun h=>w1 h ho
 have w2:=fun h=>w2 h ho
 have hx:=dgL_at r3
 have x1:=ha.at r3
 have x2:=H.bytes_all (dgA l a)
 have y1:=pN_length (plc c l.length)
 have y2:=dgL_length (fnd l (plc c l.length))
 rw[fnd_len]at y2
 have y3:=pN_all (plc c l.length)
 have y4:List.take (plc c l.length).length (dgL (fnd l (plc c l.length)))=dgL (fnd l (plc c l.length)):=List.take_of_length_le (by omega)
 have lM:=dgL_length (mn l 0 (plc c l.length))
 have tM:=dgL_all (mn l 0 (plc c l.length))
 have b2:=b16t z1
 have b3:=b16t z2
 have nM:=dgL_noImms (mn l 0 (plc c l.length))
 have nI:=dgL_noImms (incl nd em l a)
 have nC:=dgL_noImms (cp l F)
 have p0:0<2^J:=Nat.two_pow_pos J
 clear ha
 generalize incl nd em l a=p1 at *
 generalize cp l F=p2 at *
 generalize rt nd em (l.take F)=Q at *
 generalize rt nd em l=R at *
 generalize dgA l a=x at *
 simp(implicitDefEqProofs:=false) (disch:=((fail_if_success (intro _));omega)) only[go_sem,simprocAttr,↓reduceIte,↓Nat.reduceEqDiff,xx,fd5,m5,c9,hL,ho,o1,r1,r2,t1,t2,u1,u2,z1,z2,z3,z4,lI,lC,tI,tC,b2,b3,nI,nC,↓out16_eq,H.out16_len,H.out16_all,H.out16_pl,H.noImms_bytesAV,sB_size]
 rw[iter_to (S5 l c l.length a F p1 p2 o R Q) l.length (by unfold LF;omega)]
 . rw[S5]
   generalize mn l 0 (plc c l.length)=p3 at *
   generalize dgL (fnd l (plc c l.length))=fl at *
   generalize plc c l.length=ps at *
   clear st
   simp(maxSteps:=1000000) (implicitDefEqProofs:=false) (disch:=((fail_if_success (intro _));omega)) only[go_sem,simprocAttr,↓reduceIte,↓Nat.reduceEqDiff,xx,hL,ho,o1,u3,v1,v2,v3,hx,x1,x2,y1,y2,y3,y4,lM,tM,lI,lC,tI,tC,nM,z1,z2,z3,z4,↓out16_eq,H.out16_len,H.out16_all,H.out16_pl,H.noImms_bytesAV,sB_size]
   rw[iter_to (S5b l.length F p2 o R Q) J (by unfold LF;omega)]
   . rw[S5b]
     clear st2 u3 v1 v2 v3
     have j5:2^J<=64:=Nat.pow_le_pow_right (n:=2) (by omega) j1
     generalize 2^J=P at *
     by_cases h0:F=0
     . have k:=w2 (.inr (j4 (by omega)))
       subst h0
       have k:call gl tab n 26 [i64 0,i64 l.length,bAV o,bAV R,.lst false sB (dgL p2)] []=_:=k
       cases hb:decide (o=Q)<;>rw[hb]at k e2<;>simp(maxSteps:=1000000) (implicitDefEqProofs:=false) (disch:=((fail_if_success (intro _));omega)) only[go_sem,simprocAttr,↓reduceIte,↓Nat.reduceEqDiff,xx,k,hL,ho,o1,lC,tC,z1,z2,z3,z4,e1,e2,c9,beq_self_eq_true]
     have k2:=w1 (by omega)
     by_cases hA:P=F
     . by_cases hB:F=l.length
       . have k:=w2 (.inl hB)
         cases hb:decide (o=Q)<;>cases hc:decide (o=R)<;>rw[hb]at k e2<;>rw[hc]at k2 e1<;>simp(maxSteps:=1000000) (implicitDefEqProofs:=false) (disch:=((fail_if_success (intro _));omega)) only[go_sem,simprocAttr,↓reduceIte,↓Nat.reduceEqDiff,xx,k,k2,hL,ho,o1,lC,tC,z1,z2,z3,z4,e1,e2,c9,beq_self_eq_true]
       . clear w2
         cases hc:decide (o=R)<;>rw[hc]at k2 e1<;>simp(maxSteps:=1000000) (implicitDefEqProofs:=false) (disch:=((fail_if_success (intro _));omega)) only[go_sem,simprocAttr,↓reduceIte,↓Nat.reduceEqDiff,xx,k2,hL,ho,o1,lC,tC,z1,z2,z3,z4,e1,e2,c9,beq_self_eq_true]
     . have k:=w2 (.inr (j4 hA))
       cases hb:decide (o=Q)<;>cases hc:decide (o=R)<;>rw[hb]at k e2<;>rw[hc]at k2 e1<;>simp(maxSteps:=1000000) (implicitDefEqProofs:=false) (disch:=((fail_if_success (intro _));omega)) only[go_sem,simprocAttr,↓reduceIte,↓Nat.reduceEqDiff,xx,k,k2,hL,ho,o1,lC,tC,z1,z2,z3,z4,e1,e2,c9,beq_self_eq_true]
   . rw[S5b];simp(maxSteps:=1000000) (implicitDefEqProofs:=false) (disch:=((fail_if_success (intro _));omega)) only[go_sem,simprocAttr,↓reduceIte,↓Nat.reduceEqDiff,xx,hL]
   . exact fun i hi=>st2 i hi
   . rw[S5b]
     generalize 2^J=P at *
     simp(maxSteps:=1000000) (implicitDefEqProofs:=false) (disch:=((fail_if_success (intro _));omega)) only[go_sem,simprocAttr,↓reduceIte,↓Nat.reduceEqDiff,xx,hL]
 . rw[S5];simp(implicitDefEqProofs:=false) (disch:=((fail_if_success (intro _));omega)) only[go_sem,simprocAttr,↓reduceIte,↓Nat.reduceEqDiff,xx,hL,plc,ho];rfl
 . exact st
 . rw[S5];simp(implicitDefEqProofs:=false) (disch:=((fail_if_success (intro _));omega)) only[go_sem,simprocAttr,↓reduceIte,↓Nat.reduceEqDiff,xx,hL]
end
end Go.Proofs.S03
