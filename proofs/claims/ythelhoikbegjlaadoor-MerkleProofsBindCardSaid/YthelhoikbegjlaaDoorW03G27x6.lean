/-
  Chapter 3: two accepted leaves give a collision. No condition.
-/
import Derived.Test.YthelhoikbegjlaaDoorW03xo
import Derived.Test.YthelhoikbegjlaaDoorW03G22x6
import Derived.Test.YthelhoikbegjlaaDoorCards
import Derived.Test.YthelhoikbegjlaaDoorTie
import Derived.ProofKit
import Derived.OpenShut
import Derived.Deep.DeepHandedRow
import Derived.Lib.LaidTab
import Derived.MakeChecks
set_option linter.unusedVariables false
set_option linter.unusedSimpArgs false
set_option linter.unusedSectionVars false
namespace Go.Proofs.S03
open Go Go.Ev Go.Proofs Go.Mk
open Go.Proofs.S03.H (GlK GlR)
variable {gl :Gl} {n:Nat}
theorem eqP {x y:Dg×Dg}(h1:x.1.length=16)(h2:x.2.length=16)(h3:y.1.length=16)(h4:y.2.length=16) :
  eqAV (.ar 2 (.ar 16 .it)) (.agg [bAV x.1,bAV x.2]) (.agg [bAV y.1,bAV y.2])=some (decide (x=y)):=by
 rw[eqAV,if_pos ⟨rfl,rfl⟩]
 simp only[List.zip_cons_cons,List.zip_nil_right,eqAll,eqB h1 h3,eqB h2 h4,Option.bind_some]
 by_cases e1:x.1=y.1
 . by_cases e2:x.2=y.2
   . rw[decide_eq_true e1,decide_eq_true e2,decide_eq_true (Prod.ext e1 e2)];rfl
   . rw[decide_eq_true e1,decide_eq_false e2,decide_eq_false (fun e=>e2 (congrArg Prod.snd e))];rfl
 . rw[decide_eq_false e1,decide_eq_false (fun e=>e1 (congrArg Prod.fst e))];simp
def sA (l:List (Dg×Dg))(k:Nat):Dg×Dg:=l.getD k ([],[])
theorem prL_at {l:List (Dg×Dg)}{k:Nat}(h:k<l.length):(prL l)[k]? =some (.agg [bAV (sA l k).1,bAV (sA l k).2]):=by simp[prL,sA,h]
theorem sA_eq {l:List (Dg×Dg)}{k:Nat}{x:Dg×Dg}(h:l[k]? =some x):sA l k=x:=by simp[sA,List.getD_eq_getElem?_getD,h]
def Pr16 (l:List (Dg×Dg)):Prop:=∀k,k<l.length->(sA l k).1.length=16/\(sA l k).2.length=16
theorem getLastD16 {p:List Dg}(ha:All16 p):(p.getLastD z16).length=16:=getLastD_len ha
theorem cl_len16 :∀(q i N:Nat) (p:List Dg) (d:Dg),N<=q->d.length=16->(cl nd z16 d i N p).length=16
 | q,i,N,p,d,h,hd=>by
   by_cases h2:2<=N
   . by_cases hi:i<spl N
     . rw[cl_lo h2 hi];exact nd_len _ _
     . rw[cl_hi h2 hi];exact nd_len _ _
   . rw[cl_one (by omega)];exact hd
theorem stp_16 :∀(q i N:Nat) (p:List Dg) (d:Dg),N<=q->d.length=16->All16 p->∀x∈stp nd z16 d i N p,x.1.length=16/\x.2.length=16
 | 0,i,N,p,d,h,hd,ha=>by rw[stp_one (by omega)];intro x hx;cases hx
 | q+1,i,N,p,d,h,hd,ha=>by
   by_cases h2:2<=N
   . have hk:=spl_lt h2
     have hp:=spl_pos N
     by_cases hi:i<spl N
     . rw[stp_lo h2 hi]
       intro x hx
       rcases List.mem_append.1 hx with hx|hx
       . exact stp_16 q _ _ _ d (by omega) hd ha.dropLast x hx
       . rw[List.mem_singleton]at hx;subst hx
         exact⟨cl_len16 _ _ _ _ _ (Nat.le_refl _) hd,getLastD16 ha⟩
     . rw[stp_hi h2 hi]
       intro x hx
       rcases List.mem_append.1 hx with hx|hx
       . exact stp_16 q _ _ _ d (by omega) hd ha.dropLast x hx
       . rw[List.mem_singleton]at hx;subst hx
         exact⟨getLastD16 ha,cl_len16 _ _ _ _ _ (Nat.le_refl _) hd⟩
   . rw[stp_one (by omega)];intro x hx;cases hx
theorem pr16_of {l:List (Dg×Dg)}(h:∀x∈l,x.1.length=16/\x.2.length=16):Pr16 l:=fun k hk=>by
 have e:sA l k=l[k]:=by simp[sA,hk]
 rw[e];exact h _ (List.getElem_mem hk)
theorem first_fail (p:Nat->Prop):∀N,(∀i,i<N->p i)\/∃q,q<N/\(∀i,i<q->p i)/\¬p q
 | 0=>Or.inl (fun i h=>by omega)
 | N+1=>by
   rcases first_fail p N with h|⟨q,h1,h2,h3⟩
   . by_cases hp:p N
     . exact Or.inl fun i hi=>by
        by_cases e:i=N
        . subst e;exact hp
        . exact h i (by omega)
     . exact Or.inr ⟨N,by omega,h,hp⟩
   . exact Or.inr ⟨q,by omega,h2,h3⟩
def L6 :MC:=match m6 with| .seq _ (.seq _ (.seq _ (.seq _ (.seq _ (.seq (.seq _ (.block _ (.loop _ b))) _)))))=>b|_=>.skip
def S6 (X Y:List (Dg×Dg))(k:Nat):St:=⟨[.set 17 (i64 k),.set 16 (.lst false sPr (prL Y)),.set 15 (.lst false sPr (prL X))],[]⟩
def Ok6 (X Y:List (Dg×Dg))(k:Nat):Prop:=¬(sA X k≠sA Y k/\nd (sA X k).1 (sA X k).2=nd (sA Y k).1 (sA Y k).2)
section
variable [Nonempty (GlK gl)]
theorem step6 {m:Nat}(hm:7<=m){X Y:List (Dg×Dg)}(hX:Pr16 X)(hY:Pr16 Y)(he:Y.length=X.length)(hl:X.length<=1000)(k:Nat)(hk:k<X.length)(h:Ok6 X Y k) :
  contK [.slot 15,.slot 16,.slot 17] (evC gl (call gl tab m) L6 (S6 X Y k))=some (S6 X Y (k+1)):=by
 have hx:=prL_at hk
 have hy:=prL_at (l:=Y) (show k<Y.length by omega)
 obtain⟨x1,x2⟩:=hX k hk
 obtain⟨y1,y2⟩:=hY k (by omega)
 have e:=eqP x1 x2 y1 y2
 have c1:=@node_at gl m _ (by omega) _ _ x1 x2
 have c2:=@node_at gl m _ (by omega) _ _ y1 y2
 have e2:=eqB (nd_len (sA X k).1 (sA X k).2) (nd_len (sA Y k).1 (sA Y k).2)
 have lX:=prL_length X
 have lY:=prL_length Y
 unfold Ok6 at h
 have b1:=H.bytes_all (sA X k).1
 have b2:=H.bytes_all (sA X k).2
 have b3:=H.bytes_all (sA Y k).1
 have b4:=H.bytes_all (sA Y k).2
 have b5:=H.bytes_all (nd (sA X k).1 (sA X k).2)
 have b6:=H.bytes_all (nd (sA Y k).1 (sA Y k).2)
 have b7:=nd_len (sA X k).1 (sA X k).2
 have b8:=nd_len (sA Y k).1 (sA Y k).2
 rw[S6,S6]
 by_cases h1:sA X k=sA Y k
 . rw[decide_eq_true h1]at e
   generalize nd (sA X k).1 (sA X k).2=q1 at *
   generalize nd (sA Y k).1 (sA Y k).2=q2 at *
   generalize sA X k=x at *
   generalize sA Y k=y at *
   simp(implicitDefEqProofs:=false) (disch:=((fail_if_success (intro _));omega)) only[go_sem,simprocAttr,↓reduceIte,↓Nat.reduceEqDiff,xx,L6,m6,hx,hy,x1,x2,y1,y2,b1,b2,b3,b4,e,lX,lY]
 . rw[decide_eq_false h1]at e
   rw[decide_eq_false (fun h2=>h ⟨h1,h2⟩)]at e2
   generalize nd (sA X k).1 (sA X k).2=q1 at *
   generalize nd (sA Y k).1 (sA Y k).2=q2 at *
   generalize sA X k=x at *
   generalize sA Y k=y at *
   simp(implicitDefEqProofs:=false) (disch:=((fail_if_success (intro _));omega)) only[go_sem,simprocAttr,↓reduceIte,↓Nat.reduceEqDiff,xx,L6,m6,hx,hy,x1,x2,y1,y2,b1,b2,b3,b4,b5,b6,b7,b8,e,e2,c1,c2,lX,lY]
variable [Nonempty (GlR gl)] [Nonempty (GlB gl)]
theorem ret6 {m:Nat}(hm:1001<=m){X Y:List (Dg×Dg)}(hX:Pr16 X)(hY:Pr16 Y)(he:Y.length=X.length)(hl:X.length<=1000)(k:Nat)(hk:k<X.length)(h:¬Ok6 X Y k) :
  out1 14 (evC gl (call gl tab m) L6 (S6 X Y k))=some (.ret,.bool true):=by
 have c9:=@sanity_at gl m _ _ _ hm
 have hx:=prL_at hk
 have hy:=prL_at (l:=Y) (show k<Y.length by omega)
 obtain⟨x1,x2⟩:=hX k hk
 obtain⟨y1,y2⟩:=hY k (by omega)
 have e:=eqP x1 x2 y1 y2
 have c1:=@node_at gl m _ (by omega) _ _ x1 x2
 have c2:=@node_at gl m _ (by omega) _ _ y1 y2
 have e2:=eqB (nd_len (sA X k).1 (sA X k).2) (nd_len (sA Y k).1 (sA Y k).2)
 have lX:=prL_length X
 have lY:=prL_length Y
 unfold Ok6 at h
 obtain⟨h1,h2⟩:=Classical.not_not.1 h
 have b1:=H.bytes_all (sA X k).1
 have b2:=H.bytes_all (sA X k).2
 have b3:=H.bytes_all (sA Y k).1
 have b4:=H.bytes_all (sA Y k).2
 have b5:=H.bytes_all (nd (sA X k).1 (sA X k).2)
 have b6:=H.bytes_all (nd (sA Y k).1 (sA Y k).2)
 have b7:=nd_len (sA X k).1 (sA X k).2
 have b8:=nd_len (sA Y k).1 (sA Y k).2
 rw[S6]
 rw[decide_eq_false h1]at e
 rw[decide_eq_true h2]at e2
 clear h h2
 generalize nd (sA X k).1 (sA X k).2=q1 at *
 generalize nd (sA Y k).1 (sA Y k).2=q2 at *
 generalize sA X k=x at *
 generalize sA Y k=y at *
 simp(implicitDefEqProofs:=false) (disch:=((fail_if_success (intro _));omega)) only[go_sem,simprocAttr,↓reduceIte,↓Nat.reduceEqDiff,xx,L6,m6,hx,hy,x1,x2,y1,y2,b1,b2,b3,b4,b5,b6,b7,b8,e,e2,c1,c2,c9,lX,lY]
theorem law6 (hn:1001<=n)(ar:List AV)(h:HasKds [kB,kB,kI,kI,.sl kB,.sl kB,kB] ar):call gl tab (n+1) 6 ar []=some (.bool true,[],[]):=by
 simp only[HasKds]at h
 obtain⟨_,_,rfl,h1,_,_,rfl,h2,_,_,rfl,h3,_,_,rfl,h4,_,_,rfl,h5,_,_,rfl,h6,_,_,rfl,h7,rfl⟩:=h
 obtain⟨a,rfl,ha⟩:=kd_B h1
 obtain⟨b,rfl,hb⟩:=kd_B h2
 obtain⟨i,rfl,hi⟩:=kd_i h3
 obtain⟨N,rfl,hN⟩:=kd_i h4
 obtain⟨p,rfl,hp,hp0⟩:=kd_dgs h5
 obtain⟨q,rfl,hq,hq0⟩:=kd_dgs h6
 obtain⟨r,rfl,hr⟩:=kd_B h7
 clear h1 h2 h3 h4 h5 h6 h7
 have c9:=@sanity_at gl n _ _ _ hn
 have a1:=H.bytes_all a
 have b1:=H.bytes_all b
 have r1:=H.bytes_all r
 have lP:=dgL_length p
 have lQ:=dgL_length q
 have eab:=eqB ha hb
 rw[call_go (fd:=fd6) rfl]
 by_cases g1:p.length<=60
 case neg=>simp(disch:=((fail_if_success (intro _));omega)) only[go_sem,simprocAttr,↓reduceIte,↓Nat.reduceEqDiff,xx,fd6,m6,c9,lP,lQ,ha,hb,hr,a1,b1,r1]
 by_cases g2:q.length<=60
 case neg=>simp(disch:=((fail_if_success (intro _));omega)) only[go_sem,simprocAttr,↓reduceIte,↓Nat.reduceEqDiff,xx,fd6,m6,c9,lP,lQ,ha,hb,hr,a1,b1,r1]
 by_cases g3:a=b
 . rw[decide_eq_true g3]at eab
   simp(disch:=((fail_if_success (intro _));omega)) only[go_sem,simprocAttr,↓reduceIte,↓Nat.reduceEqDiff,xx,fd6,m6,c9,lP,lQ,ha,hb,hr,a1,b1,r1,eab]
 rw[decide_eq_false g3]at eab
 by_cases g4:N<1\/N>1099511627776\/i<0\/i>=N
 . have k1:=@checkI_bad gl n (by omega) a r i N false sB p g4 ha hr
   simp(disch:=((fail_if_success (intro _));omega)) only[go_sem,simprocAttr,↓reduceIte,↓Nat.reduceEqDiff,xx,fd6,m6,c9,lP,lQ,ha,hb,hr,a1,b1,r1,eab,k1]
 obtain⟨N,rfl⟩:∃x:Nat,N=x:=⟨N.toNat,by omega⟩
 obtain⟨i,rfl⟩:∃x:Nat,i=x:=⟨i.toNat,by omega⟩
 have k1:=@checkI_ok gl n _ (by omega) a r i N false sB p (by omega) (by omega) (by omega) ha hr hp (by omega) (.inr rfl)
 have k2:=@checkI_ok gl n _ (by omega) b r i N false sB q (by omega) (by omega) (by omega) hb hr hq (by omega) (.inr rfl)
 by_cases g5:p.length=dep i N/\cl nd z16 a i N p=r
 case neg =>
  rw[decide_eq_false g5]at k1
  simp(disch:=((fail_if_success (intro _));omega)) only[go_sem,simprocAttr,↓reduceIte,↓Nat.reduceEqDiff,xx,fd6,m6,c9,lP,lQ,ha,hb,hr,a1,b1,r1,eab,k1]
 rw[decide_eq_true g5]at k1
 by_cases g6:q.length=dep i N/\cl nd z16 b i N q=r
 case neg =>
  rw[decide_eq_false g6]at k2
  simp(disch:=((fail_if_success (intro _));omega)) only[go_sem,simprocAttr,↓reduceIte,↓Nat.reduceEqDiff,xx,fd6,m6,c9,lP,lQ,ha,hb,hr,a1,b1,r1,eab,k1,k2]
 rw[decide_eq_true g6]at k2
 have s1:=@steps_at gl n _ (by omega) false i N p a (by omega) (by omega) (by omega) ha hp g5.1 (by omega)
 have s2:=@steps_at gl n _ (by omega) false i N q b (by omega) (by omega) (by omega) hb hq g6.1 (by omega)
 have X16:=pr16_of (stp_16 _ i N p a (Nat.le_refl _) ha hp)
 have Y16:=pr16_of (stp_16 _ i N q b (Nat.le_refl _) hb hq)
 have l1:=stp_len (node:=nd) z16 a _ i N p (Nat.le_refl _)
 have l2:=stp_len (node:=nd) z16 b _ i N q (Nat.le_refl _)
 obtain⟨k,hk,x,y,u1,u2,u3,u4⟩:=collide z16 a b g3 _ i N p q (Nat.le_refl _) (g5.2.trans g6.2.symm)
 have hbad:¬Ok6 (stp nd z16 a i N p) (stp nd z16 b i N q) k:=fun h=>h (by rw[sA_eq u1,sA_eq u2];exact⟨u3,u4⟩)
 have hd:dep i N<=60:=by omega
 have eX:(stp nd z16 a i N p).length=dep i N:=l1
 clear u1 u2 u3 u4 g5 g6
 generalize stp nd z16 a i N p=X at *
 generalize stp nd z16 b i N q=Y at *
 rcases first_fail (Ok6 X Y) X.length with f|⟨w,f1,f2,f3⟩
 . exact absurd (f k (by omega)) hbad
 have st:=fun j (hj:j<w)=>step6 (gl:=gl) (m:=n) (by omega) X16 Y16 (by omega) (by omega) j (by omega) (f2 j hj)
 obtain⟨t,t1,t2⟩:=out1_get (ret6 (gl:=gl) (m:=n) (by omega) X16 Y16 (by omega) (by omega) w f1 f3)
 simp only[L6,m6]at st t1
 have lX:=prL_length X
 have lY:=prL_length Y
 simp(implicitDefEqProofs:=false) (disch:=((fail_if_success (intro _));omega)) only[go_sem,simprocAttr,↓reduceIte,↓Nat.reduceEqDiff,xx,fd6,m6,c9,lP,lQ,ha,hb,hr,a1,b1,r1,eab,k1,k2,s1,s2]
 rw[iter_to (S6 X Y) w (by unfold LF;omega)]
 . rw[t1];simp(disch:=((fail_if_success (intro _));omega)) only[go_sem,simprocAttr,↓reduceIte,↓Nat.reduceEqDiff,xx,t2]
 . rw[S6];simp(disch:=((fail_if_success (intro _));omega)) only[go_sem,simprocAttr,↓reduceIte,↓Nat.reduceEqDiff,xx]
 . exact st
 . rw[t1];rfl
end
end Go.Proofs.S03
namespace Go.Proofs.YthelhoikbegjlaaDoor
open Go Go.Ev Go.Proofs Go.ChangeShapes Go.WideShapes Go.ChangeAt Go.RowKit
theorem own :ownKnob Tryd.prog.godebug=none:=by kernel_rfl
theorem gBit :Tryd.prog.globalNamed "math/bits.deBruijn64tab" =some 1:=by kernel_rfl
theorem gCon :Tryd.prog.globalNamed "weirgate/hash.constants" =some 2:=by kernel_rfl
theorem gRef :Tryd.prog.globalNamed "weirgate/weirgateref02.constants" =some 3:=by kernel_rfl
theorem gBitT :(Tryd.prog.globals[1]?).map (·.type)=some 102:=by kernel_rfl
theorem gConT :(Tryd.prog.globals[2]?).map (·.type)=some 123:=by kernel_rfl
theorem gRefT :(Tryd.prog.globals[3]?).map (·.type)=some 123:=by kernel_rfl
theorem kBit :kdOf Tryd.prog 8 102=some (.ar 64 (.int .u8)):=by kernel_rfl
theorem kCon :kdOf Tryd.prog 8 123=some (.ar 64 (.int .u32)):=by kernel_rfl
theorem avBit :AV.agg (bytesAV S03.dbl)=avD (H:=Unit) (.ar 64 (.int .u8)) Rows.laid_math_bits_deBruijn64tab:=by kernel_rfl
theorem avCon :AV.agg S03.kA=avD (H:=Unit) (.ar 64 (.int .u32)) Rows.laid_weirgate_hash_constants:=by kernel_rfl
theorem avRef :AV.agg S03.kA=avD (H:=Unit) (.ar 64 (.int .u32)) Rows.laid_weirgate_weirgateref02_constants:=by kernel_rfl
theorem laidOk :laidOutB Tryd.prog=true:=by kernel_rfl
theorem fnOk_tbl {P:Program}{t t':Nat->Option (Sh×AV)}{ri:Nat->Option RInfo}{f:Nat}{fd:Ev.Fd}(h:FnOk P ⟨t,ri⟩ f fd):FnOk P ⟨t',ri⟩ f fd:=by
 cases h with
 | code h hlt ok=>exact .code h hlt ⟨ok.ok⟩
 | given g h hlt ok=>exact .given g h hlt ok
 | round rid ps sl ma mb hf h ok=>exact .round rid ps sl ma mb hf h ⟨ok.ok⟩
 | dfr D h hlt ok =>
   obtain⟨fn,codes,id,ops,cB,an,im,o,c,h1,h2,h3,h4,h5,h6,h7,h8,h9,h10,h11,h12,h13,h14,h15,h16,h17,fc⟩:=ok.ok
   exact .dfr D h hlt ⟨fn,codes,id,ops,cB,an,im,o,c,h1,h2,h3,h4,h5,h6,h7,h8,h9,h10,h11,h12,h13,h14,h15,h16,h17,⟨fc.ok⟩⟩
noncomputable def gl3:Gl:=⟨fun g=>match g with|1=>some (.ar 64 .sc,.agg (bytesAV S03.dbl))|2=>some (.ar 64 .sc,.agg S03.kA)|3=>some (.ar 64 .sc,.agg S03.kA)|_=>none,S03.ri⟩
theorem tab3_ok :∀f fd,S03.tab f=some fd->FnOk Tryd.prog gl3 f fd:=fun f fd h=>fnOk_tbl (S03.tab_ok f fd h)
theorem glHasK :Nonempty (S03.H.GlK gl3):=⟨⟨rfl⟩⟩
theorem glHasR :Nonempty (S03.H.GlR gl3):=⟨⟨rfl⟩⟩
theorem glHasB :Nonempty (S03.GlB gl3):=⟨⟨rfl⟩⟩
abbrev laid3 :List (String×DataW Unit):=[("math/bits.deBruijn32tab",Rows.laid_math_bits_deBruijn32tab),("math/bits.deBruijn64tab",Rows.laid_math_bits_deBruijn64tab),("weirgate/weirgateref02.constants",Rows.laid_weirgate_weirgateref02_constants),("weirgate/hash.constants",Rows.laid_weirgate_hash_constants)]
theorem glOk3 {W:World}(h:laidMetH Tryd.prog laid3 W):TabOk W.heap gl3:=by
 have h:laidMet Tryd.prog laid3 W:=h
 refine glOk_laid h fun g sh a hg=> ?_
 match g,hg with
 | 0,hg=>cases hg
 | 1,hg =>
   obtain⟨rfl,rfl⟩:=Prod.mk.inj (Option.some.inj hg)
   exact⟨_,List.mem_cons_of_mem _ List.mem_cons_self,8,102,_,gBit,gBitT,kBit,rfl,avBit⟩
 | 2,hg =>
   obtain⟨rfl,rfl⟩:=Prod.mk.inj (Option.some.inj hg)
   exact⟨_,List.mem_cons_of_mem _ (List.mem_cons_of_mem _ (List.mem_cons_of_mem _ List.mem_cons_self)),8,123,_,gCon,gConT,kCon,rfl,avCon⟩
 | 3,hg =>
   obtain⟨rfl,rfl⟩:=Prod.mk.inj (Option.some.inj hg)
   exact⟨_,List.mem_cons_of_mem _ (List.mem_cons_of_mem _ List.mem_cons_self),8,123,_,gRef,gRefT,kCon,rfl,avRef⟩
 | _+4,hg=>cases hg
def conCells :Array Value:=(S03.kList.map fun x=>Value.int .u32 (x.toNat:Int)).toArray
def bit32Cells :Array Value:=([0,1,28,2,29,14,24,3,30,22,20,15,25,17,4,8,31,27,13,23,21,19,16,7,26,12,18,6,11,5,10,9]:List Int).map (fun x=>Value.int .u8 x) |>.toArray
def bit64Cells :Array Value:=(S03.dbl.map fun x=>Value.int .u8 (x.toNat:Int)).toArray
def put (vs:Array Value):Obj->Obj
 | .cells _ t frozen=>.cells vs t frozen
 | o=>o
noncomputable def laidWorld (os:Os):World :=
 {World.holding Tryd.prog os ⟨#[],#[],[]⟩with heap:=((((World.holding Tryd.prog os ⟨#[],#[],[]⟩).heap.modify 0 (put bit32Cells)).modify 1 (put bit64Cells)).modify 2 (put conCells)).modify 3 (put conCells)}
end Go.Proofs.YthelhoikbegjlaaDoor
