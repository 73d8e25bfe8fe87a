/-
  Chapter 17: the specification's search. No condition.
-/
import Derived.Test.YthipjfnealbheaaGreatDoorW97G23x3
set_option linter.all false
open List renaming nil_append->wB,length_nil->wC,length_singleton->wD,length_append->wE
open Bool renaming and_true->wF,not_false->wG,and_false->wH,not_true->wJ,false_or->wK,true_or->wL
namespace Go.Proofs.S97
open Go Go.Ev Go.Proofs Go.Proofs.S97.Q
variable {gl :Gl} {n:Nat}
open Go.Mp (esN fN MOk)
abbrev shR :Sh:=.st [.sc,.st [.sc,.sc,.sc,.st [.sc,.sc,.sc,.sc]],.sc]
abbrev Zr0 :AV:=.agg [.lst true .sc [],Zs0,i64 0]
def L28 :MC:=match m28 with| .seq _ (.seq _ (.seq _ (.seq _ (.seq _ (.seq _ (.seq _ (.seq (.block _ (.loop _ b)) _)))))))=>b|_=>.skip
def L28i :MC:=match L28 with| .seq _ (.block _ (.seq _ (.seq _ (.seq _ (.seq _ (.seq (.seq _ (.block _ (.loop _ b))) _))))))=>b|_=>.skip
abbrev q0 :Fl:=qq false false sO
def S28A (S0:Sf)(h:Ob)(v:Vt):St :=
 ⟨[.set 6 (.bool v.w),.set 5 (.ptr 5 []),.set 4 (.ptr 4 []),.set 3 (.ptr 3 []),.set 2 (.ptr 2 [])],[(5,.fix shR (.agg [.lst true .sc [],sfV v.S q0,i64 0])),(4,.fix shR Zr0),(3,.fix sO (oV h)),(2,.fix shB (sfV S0 q0))]⟩
def S28B (S0:Sf)(h:Ob)(v:Vt):St :=
 ⟨[.set 6 (.bool v.w),.set 5 (.ptr 5 []),.set 4 (.ptr 4 []),.set 3 (.ptr 3 []),.set 2 (.ptr 2 [])],[(6050,.grow sO (hs v.o)),(5,.fix shR (.aggR [.sl 6050 [] 0 v.o.length,sfV v.S q0,i64 0])),(4,.fix shR Zr0),(3,.fix sO (oV h)),(2,.fix shB (sfV S0 q0))]⟩
def zel (S0:Sf)(h:Ob)(v:Vt)(t b:Int)(i:Nat):St :=
 ⟨[.set 10 (i64 i),.set 9 (i64 b),.set 8 (i64 t),.set 6 (.bool v.w),.set 5 (.ptr 5 []),.set 4 (.ptr 4 []),.set 3 (.ptr 3 []),.set 2 (.ptr 2 [])],[(5,.fix shR (.agg [.lst true .sc [],sfV v.S q0,i64 0])),(4,.fix shR Zr0),(3,.fix sO (oV h)),(2,.fix shB (sfV S0 q0))]⟩
def zek (S0:Sf)(h:Ob)(v:Vt)(t b:Int)(i:Nat):St :=
 ⟨[.set 10 (i64 i),.set 9 (i64 b),.set 8 (i64 t),.set 6 (.bool v.w),.set 5 (.ptr 5 []),.set 4 (.ptr 4 []),.set 3 (.ptr 3 []),.set 2 (.ptr 2 [])],[(6050,.grow sO (hs v.o)),(5,.fix shR (.aggR [.sl 6050 [] 0 v.o.length,sfV v.S q0,i64 0])),(4,.fix shR Zr0),(3,.fix sO (oV h)),(2,.fix shB (sfV S0 q0))]⟩
structure SK (S0 S:Sf):Prop where
 c:S.c=S0.c
 w:S.w=S0.w
 s:S.s=S0.s
 a:S.a=S0.a
 L:S.L=S0.L
theorem SK.cnt {S0 S:Sf}(h:SK S0 S):cnt S=cnt S0:=by funext x;unfold S97.cnt;rw[h.L,h.w]
theorem SK.rls {S0 S:Sf}(h:SK S0 S)(a b:Ob):rls S a b=rls S0 a b:=by unfold S97.rls;rw[h.cnt]
theorem SK.next {S0:Sf}{h:Ob}{v:Vt}(k:SK S0 v.S):SK S0 (nxt h v).S:=⟨k.c,k.w,k.s,k.a,k.L⟩
theorem zit (hn:12<=n){S:Sf}(hv:VSf S)(ht:Tn S.A){h:Ob}(hr:ROk h)(ha:∃k,k<S.A.length/\(aat S.A k).t=h.tn)(hf:S.c<sumU S.A S.A.length+h.sz) :
  call gl tab n 63 [i64 S.c,.lst false sA (ac S.A),i64 h.tn,i64 h.sz] []=some (.agg [i64 0,i64 160],[],[])/\vtn S h=h.tn \/
  call gl tab n 63 [i64 S.c,.lst false sA (ac S.A),i64 h.tn,i64 h.sz] []=some (.agg [i64 (vtn S h),i64 0],[],[]):=by
 obtain⟨hk,hkt⟩:=zic hv.va ha
 have hsz:0<=h.sz/\h.sz<=1099511627776:=by have:=hr.sz;omega
 have hA:=hv.va.n
 have c:=@rplace_at gl (n-1) (by omega) false sA S.A (.inr rfl) (by omega) h.tn (idxT S.A h.tn) (by omega) (fun j hj e=>by
  have:=zgv hv.va (show j<S.A.length by omega) hk (e.trans hkt.symm);omega) (fun _=>hkt)
 rw[if_pos hk]at c
 have c1:=@zti gl n hn S.A hv.va h.tn S.c h.sz (idxT S.A h.tn) hv.c hsz hk hkt _ (zvw (zd0 hv.va hsz) hv.c) hf c
 by_cases ho:own S h
 . left
   refine⟨?_,by rw[vtn,if_pos ho]⟩
   unfold own fgs at ho
   rw[if_pos ho]at c1;exact c1
 . right
   have:vtn S h=(bst S.A (fgs S h) (idxT S.A h.tn) S.A.length).1:=by rw[vtn,if_neg ho]
   rw[this]
   unfold own fgs at ho
   rw[if_neg ho]at c1
   exact c1
set_option maxHeartbeats 2000000 in
theorem z5k [Nonempty (H.GlR gl)]{d:Nat}{S0:Sf}{h:Ob}{v:Vt}(hk:KOk S0)(hs0:SK S0 v.S)(hH:v.S.H.length<=4096)(hnm:∀i,i<v.S.H.length->(oat v.S.H i).nm.length<=5000)(t:Int)(i:Nat)(hi:i<v.S.H.length) :
  za1 [.slot 2,.slot 3,.slot 4,.slot 5,.slot 6,.slot 8,.slot 9,.slot 10,.key 2,.key 3,.key 4,.key 5,.mv 5 [0] 6050] (evC gl (call gl tab (d+11)) L28i (zel S0 h v t (rbs v.S t i) i))=some (zel S0 h v t (rbs v.S t (i+1)) (i+1)):=by
 have hx:=zc7 hi
 by_cases ht:(oat v.S.H i).tn=t
 case neg =>
  rw[zxt (fun h=>ht h.1)]
  have e:((oat v.S.H i).tn==t)=false:=by simpa using ht
  generalize rbs v.S t i=b at *
  simp(disch:=apply zq;omega) only[go_sem,simprocAttr,↓Nat.reduceEqDiff,xx,L28i,L28,m28,zel,zaa,hx,e]
 have e:((oat v.S.H i).tn==t)=true:=by simpa using ht
 by_cases hb:rbs v.S t i<0
 . rw[zxs ht (.inl hb)]
   generalize rbs v.S t i=b at *
   simp(disch:=apply zq;omega) only[go_sem,simprocAttr,↓Nat.reduceEqDiff,xx,L28i,L28,m28,zel,zaa,hx,e]
 . obtain⟨b,hb1,hb2⟩:∃b:Nat,rbs v.S t i=b/\b<v.S.H.length:=by
    rcases zns v.S t v.m i with ⟨h1,h2⟩|⟨h1,h2,h3,h4⟩
    . omega
    . exact⟨(rbs v.S t i).toNat,by omega,by omega⟩
   have hxb:=zc7 hb2
   have c:=@zvj gl (d+11) _ (by omega) S0 q0 hk (oat v.S.H i) (oat v.S.H b) (hnm i hi) (hnm b hb2)
   unfold oV at c
   rw[<-hs0.rls]at c
   have et:(rbs v.S t i).toNat=b:=by omega
   cases hr:rls v.S (oat v.S.H i) (oat v.S.H b)with
   | true =>
     rw[zxs ht (.inr (by rw[et];exact hr)),hb1]
     rw[hr]at c
     generalize oat v.S.H i=o1 at *
     generalize oat v.S.H b=o2 at *
     simp(disch:=apply zq;omega) only[go_sem,simprocAttr,↓Nat.reduceEqDiff,xx,L28i,L28,m28,zel,zaa,hx,hxb,e,c]
   | false =>
     rw[zxt (by
        rintro ⟨_,h'|h'⟩;· omega
        . rw[et,hr]at h';cases h'),hb1]
     rw[hr]at c
     generalize oat v.S.H i=o1 at *
     generalize oat v.S.H b=o2 at *
     simp(disch:=apply zq;omega) only[go_sem,simprocAttr,↓Nat.reduceEqDiff,xx,L28i,L28,m28,zel,zaa,hx,hxb,e,c]
theorem zpy [Nonempty (H.GlR gl)]{d:Nat}{S0:Sf}{h:Ob}{v:Vt}(hk:KOk S0)(hs0:SK S0 v.S)(hH:v.S.H.length<=4096)(hnm:∀i,i<v.S.H.length->(oat v.S.H i).nm.length<=5000)(t:Int){st:St}
  (hst:zcr [.slot 2,.slot 3,.slot 4,.slot 5,.slot 6,.slot 8,.slot 9,.slot 10,.key 2,.key 3,.key 4,.key 5,.mv 5 [0] 6050] st=some (zel S0 h v t (-1) 0)) :
  iter (evC gl (call gl tab (d+11)) L28i) [.slot 2,.slot 3,.slot 4,.slot 5,.slot 6,.slot 8,.slot 9,.slot 10,.key 2,.key 3,.key 4,.key 5,.mv 5 [0] 6050] LF st=evC gl (call gl tab (d+11)) L28i (zel S0 h v t (rbs v.S t v.S.H.length) v.S.H.length):=by
 rw[zaj (fun i=>zel S0 h v t (rbs v.S t i) i) v.S.H.length (by unfold LF;omega) hst (fun i hi=>z5k hk hs0 hH hnm t i hi)]
 simp(disch:=apply zq;omega) only[go_sem,simprocAttr,↓Nat.reduceEqDiff,xx,L28i,L28,m28,zel,zaa]
set_option maxHeartbeats 2000000 in
theorem z5j [Nonempty (H.GlR gl)]{d:Nat}{S0:Sf}{h:Ob}{v:Vt}(hk:KOk S0)(hs0:SK S0 v.S)(hH:v.S.H.length<=4096)(hnm:∀i,i<v.S.H.length->(oat v.S.H i).nm.length<=5000)(t:Int)(i:Nat)(hi:i<v.S.H.length) :
  za1 [.slot 2,.slot 3,.slot 4,.slot 5,.slot 6,.slot 8,.slot 9,.slot 10,.key 2,.key 3,.key 4,.key 5,.mv 5 [0] 6050] (evC gl (call gl tab (d+11)) L28i (zek S0 h v t (rbs v.S t i) i))=some (zek S0 h v t (rbs v.S t (i+1)) (i+1)):=by
 have hx:=zc7 hi
 by_cases ht:(oat v.S.H i).tn=t
 case neg =>
  rw[zxt (fun h=>ht h.1)]
  have e:((oat v.S.H i).tn==t)=false:=by simpa using ht
  generalize rbs v.S t i=b at *
  simp(disch:=apply zq;omega) only[go_sem,simprocAttr,↓Nat.reduceEqDiff,xx,L28i,L28,m28,zek,zaa,hx,e]
 have e:((oat v.S.H i).tn==t)=true:=by simpa using ht
 by_cases hb:rbs v.S t i<0
 . rw[zxs ht (.inl hb)]
   generalize rbs v.S t i=b at *
   simp(disch:=apply zq;omega) only[go_sem,simprocAttr,↓Nat.reduceEqDiff,xx,L28i,L28,m28,zek,zaa,hx,e]
 . obtain⟨b,hb1,hb2⟩:∃b:Nat,rbs v.S t i=b/\b<v.S.H.length:=by
    rcases zns v.S t v.m i with ⟨h1,h2⟩|⟨h1,h2,h3,h4⟩
    . omega
    . exact⟨(rbs v.S t i).toNat,by omega,by omega⟩
   have hxb:=zc7 hb2
   have c:=@zvj gl (d+11) _ (by omega) S0 q0 hk (oat v.S.H i) (oat v.S.H b) (hnm i hi) (hnm b hb2)
   unfold oV at c
   rw[<-hs0.rls]at c
   have et:(rbs v.S t i).toNat=b:=by omega
   cases hr:rls v.S (oat v.S.H i) (oat v.S.H b)with
   | true =>
     rw[zxs ht (.inr (by rw[et];exact hr)),hb1]
     rw[hr]at c
     generalize oat v.S.H i=o1 at *
     generalize oat v.S.H b=o2 at *
     simp(disch:=apply zq;omega) only[go_sem,simprocAttr,↓Nat.reduceEqDiff,xx,L28i,L28,m28,zek,zaa,hx,hxb,e,c]
   | false =>
     rw[zxt (by
        rintro ⟨_,h'|h'⟩;· omega
        . rw[et,hr]at h';cases h'),hb1]
     rw[hr]at c
     generalize oat v.S.H i=o1 at *
     generalize oat v.S.H b=o2 at *
     simp(disch:=apply zq;omega) only[go_sem,simprocAttr,↓Nat.reduceEqDiff,xx,L28i,L28,m28,zek,zaa,hx,hxb,e,c]
theorem zpx [Nonempty (H.GlR gl)]{d:Nat}{S0:Sf}{h:Ob}{v:Vt}(hk:KOk S0)(hs0:SK S0 v.S)(hH:v.S.H.length<=4096)(hnm:∀i,i<v.S.H.length->(oat v.S.H i).nm.length<=5000)(t:Int){st:St}
  (hst:zcr [.slot 2,.slot 3,.slot 4,.slot 5,.slot 6,.slot 8,.slot 9,.slot 10,.key 2,.key 3,.key 4,.key 5,.mv 5 [0] 6050] st=some (zek S0 h v t (-1) 0)) :
  iter (evC gl (call gl tab (d+11)) L28i) [.slot 2,.slot 3,.slot 4,.slot 5,.slot 6,.slot 8,.slot 9,.slot 10,.key 2,.key 3,.key 4,.key 5,.mv 5 [0] 6050] LF st=evC gl (call gl tab (d+11)) L28i (zek S0 h v t (rbs v.S t v.S.H.length) v.S.H.length):=by
 rw[zaj (fun i=>zek S0 h v t (rbs v.S t i) i) v.S.H.length (by unfold LF;omega) hst (fun i hi=>z5j hk hs0 hH hnm t i hi)]
 simp(disch:=apply zq;omega) only[go_sem,simprocAttr,↓Nat.reduceEqDiff,xx,L28i,L28,m28,zek,zaa]
end Go.Proofs.S97
namespace Go.Proofs.S97
open Go Go.Ev Go.Proofs Go.Proofs.S97.Q
variable {gl :Gl} {n:Nat}
open Go.Mp (esN fN MOk)
set_option maxHeartbeats 4000000 in
theorem qbs [Nonempty (H.GlR gl)]{d:Nat}{S0:Sf}{h:Ob}(hr:ROk h)(hhn:h.nm.length<=5000){v:Vt}(hk:KOk S0)(hs0:SK S0 v.S)(hi:IV h v)(ho:v.o=[])(hf:v.S.c<tot v.S+h.sz)(hw:wls v h≠[]) :
  za1 [.slot 2,.slot 3,.slot 4,.slot 5,.slot 6,.key 2,.key 3,.key 4,.key 5,.mv 5 [0] 6050] (evC gl (call gl tab (d+12)) L28 (S28A S0 h v))=some (S28B S0 h (nxt h v)):=by
 obtain⟨p1,p2,p3,p4,p5⟩:=zgg hi hw
 have hbs:=z1a hi hw
 have htl:tot v.S<=1099511627776:=Int.le_trans hi.hv.ht hi.hv.c.2
 have ht0:0<=tot v.S:=(zcb hi.hv.va (Nat.le_refl _)).1
 have hsz:=hr.sz
 have hcc:=hi.hv.c
 have hH:=hi.hv.hn
 have hol:=hi.ol
 have hxn:(xls v h).nm.length<=5000:=hi.nm _ p1
 have hx:=zc7 p1
 have c1:call gl tab (d+12) 38 [.lst false sA (ac v.S.A)] []=some (i64 (tot v.S),[],[]):=@zdh gl (d+12) (by omega) false sA v.S.A (.inr rfl) hi.hv.va
 have c2:=@zit gl (d+12) (by omega) v.S hi.hv hi.ht h hr hi.ha hf
 have c3:=@zni gl (d+12) (by omega) v.S false false sO hi.hv (.inr rfl) (jls v h) (kls v h) p1 p3 p4
 have c4:=@zjv gl (d+12) _ (by omega) S0 q0 hk (xls v h).nm hxn
 have c5:=@zjv gl (d+12) _ (by omega) S0 q0 hk h.nm hhn
 rw[<-hs0.cnt]at c4 c5
 have lp:=fun st hst=>@zpy gl _ (d+1) S0 h v hk hs0 hH hi.nm (vtn v.S h) st hst
 rw[hbs]at lp
 have n0:oat v.S.H (jls v h)=xls v h:=rfl
 have n1:(nxt h v).o=v.o++[xls v h]:=rfl
 have n2:(nxt h v).w=(v.w&&(!decide ((xls v h).tn=h.tn)||decide (cnt v.S (xls v h).nm<cnt v.S h.nm))):=rfl
 have n3:drp v.S (jls v h) (kls v h)=(nxt h v).S:=rfl
 rw[n0]at hx
 rw[n3]at c3
 have hap:=zg9 v.o (xls v h)
 have htk2:=ze2 v.o (oV (xls v h))
 have hs1:hs [xls v h]=[.agg [.str (xls v h).nm,i64 (xls v h).tn,i64 (xls v h).sz,i64 (xls v h).la]]:=rfl
 have hlim:=zjc (show v.o.length<=8192 by omega)
 rw[hs0.c]at c2 hf hcc
 unfold S28B
 rw[n1,n2]
 clear n0 n1 n2 n3 p2 p3 p4 p5
 have hjl:jls v h<v.S.H.length:=p1
 simp only[L28i,L28,m28]at lp
 generalize nxt h v=v2 at *
 generalize xls v h=x at *
 generalize jls v h=j at *
 generalize cnt v.S x.nm=cx at *
 generalize cnt v.S h.nm=ch at *
 generalize tot v.S=tS at *
 generalize hts:vtn v.S h=t at *
 rw[wE,wD]
 rw[ho]at hap htk2 hlim ⊢
 have fin:∀(N E:Int),call gl tab (d+12) 63 [i64 S0.c,.lst false sA (ac v.S.A),i64 h.tn,i64 h.sz] []=some (.agg [i64 N,i64 E],[],[])->(E=160/\t=h.tn\/E=0/\t=N) ->
   za1 [.slot 2,.slot 3,.slot 4,.slot 5,.slot 6,.key 2,.key 3,.key 4,.key 5,.mv 5 [0] 6050] (evC gl (call gl tab (d+12)) L28 (S28A S0 h v))=some ⟨[.set 6 (.bool (v.w&&(!decide (x.tn=h.tn)||decide (cx<ch)))),.set 5 (.ptr 5 []),.set 4 (.ptr 4 []),.set 3 (.ptr 3 []),.set 2 (.ptr 2 [])],[(6050,.grow sO (hs ([]++[x]))),(5,.fix shR (.aggR [.sl 6050 [] 0 (([]:List Ob).length+1),sfV v2.S q0,i64 0])),(4,.fix shR Zr0),(3,.fix sO (oV h)),(2,.fix shB (sfV S0 q0))]⟩:=by
  intro N E g2 hE
  clear hts c2
  have main:∀w:Bool,w=(v.w&&(!decide (x.tn=h.tn)||decide (cx<ch)))->za1 [.slot 2,.slot 3,.slot 4,.slot 5,.slot 6,.key 2,.key 3,.key 4,.key 5,.mv 5 [0] 6050] (evC gl (call gl tab (d+12)) L28 (S28A S0 h v))=some ⟨[.set 6 (.bool w),.set 5 (.ptr 5 []),.set 4 (.ptr 4 []),.set 3 (.ptr 3 []),.set 2 (.ptr 2 [])],[(6050,.grow sO (hs ([]++[x]))),(5,.fix shR (.aggR [.sl 6050 [] 0 (([]:List Ob).length+1),sfV v2.S q0,i64 0])),(4,.fix shR Zr0),(3,.fix sO (oV h)),(2,.fix shB (sfV S0 q0))]⟩:=by
   intro w hwe
   rcases hE with ⟨rfl,rfl⟩|⟨rfl,rfl⟩
   all_goals
    by_cases hs:x.tn=h.tn
    . have es:(x.tn==h.tn)=true:=by simpa using hs
      rw[decide_eq_true hs,wJ,wK]at hwe
      by_cases hq:cx<ch
      . rw[decide_eq_true hq,wF]at hwe
        subst hwe
        simp(disch:=apply zq;omega) only[go_sem,simprocAttr,↓Nat.reduceEqDiff,xx,L28,m28,S28A,c1,g2]
        rw[lp _ (by simp(disch:=apply zq;omega) only[go_sem,simprocAttr,↓Nat.reduceEqDiff,xx,zel,S28A])]
        simp(disch:=apply zq;omega) only[go_sem,simprocAttr,↓Nat.reduceEqDiff,xx,zel,zaa,hx,c3,c4,c5,es,hap,htk2,hlim,zc6,wB,wC,hs1]
      . rw[decide_eq_false hq,wH]at hwe
        subst hwe
        simp(disch:=apply zq;omega) only[go_sem,simprocAttr,↓Nat.reduceEqDiff,xx,L28,m28,S28A,c1,g2]
        rw[lp _ (by simp(disch:=apply zq;omega) only[go_sem,simprocAttr,↓Nat.reduceEqDiff,xx,zel,S28A])]
        simp(disch:=apply zq;omega) only[go_sem,simprocAttr,↓Nat.reduceEqDiff,xx,zel,zaa,hx,c3,c4,c5,es,hap,htk2,hlim,zc6,wB,wC,hs1]
    . have es:(x.tn==h.tn)=false:=by simpa using hs
      rw[decide_eq_false hs,wG,wL,wF]at hwe
      subst hwe
      simp(disch:=apply zq;omega) only[go_sem,simprocAttr,↓Nat.reduceEqDiff,xx,L28,m28,S28A,c1,g2]
      rw[lp _ (by simp(disch:=apply zq;omega) only[go_sem,simprocAttr,↓Nat.reduceEqDiff,xx,zel,S28A])]
      simp(disch:=apply zq;omega) only[go_sem,simprocAttr,↓Nat.reduceEqDiff,xx,zel,zaa,hx,c3,c4,c5,es,hap,htk2,hlim,zc6,wB,wC,hs1]
  exact main _ rfl
 rcases c2 with ⟨c2,ht⟩|c2
 . exact fin 0 160 c2 (.inl ⟨rfl,ht⟩)
 . exact fin t 0 c2 (.inr ⟨rfl,rfl⟩)
set_option maxHeartbeats 4000000 in
theorem qbr [Nonempty (H.GlR gl)]{d:Nat}{S0:Sf}{h:Ob}(hr:ROk h)(hhn:h.nm.length<=5000){v:Vt}(hk:KOk S0)(hs0:SK S0 v.S)(hi:IV h v)(hf:v.S.c<tot v.S+h.sz)(hw:wls v h≠[]) :
  za1 [.slot 2,.slot 3,.slot 4,.slot 5,.slot 6,.key 2,.key 3,.key 4,.key 5,.mv 5 [0] 6050] (evC gl (call gl tab (d+12)) L28 (S28B S0 h v))=some (S28B S0 h (nxt h v)):=by
 obtain⟨p1,p2,p3,p4,p5⟩:=zgg hi hw
 have hbs:=z1a hi hw
 have htl:tot v.S<=1099511627776:=Int.le_trans hi.hv.ht hi.hv.c.2
 have ht0:0<=tot v.S:=(zcb hi.hv.va (Nat.le_refl _)).1
 have hsz:=hr.sz
 have hcc:=hi.hv.c
 have hH:=hi.hv.hn
 have hol:=hi.ol
 have hxn:(xls v h).nm.length<=5000:=hi.nm _ p1
 have hx:=zc7 p1
 have c1:call gl tab (d+12) 38 [.lst false sA (ac v.S.A)] []=some (i64 (tot v.S),[],[]):=@zdh gl (d+12) (by omega) false sA v.S.A (.inr rfl) hi.hv.va
 have c2:=@zit gl (d+12) (by omega) v.S hi.hv hi.ht h hr hi.ha hf
 have c3:=@zni gl (d+12) (by omega) v.S false false sO hi.hv (.inr rfl) (jls v h) (kls v h) p1 p3 p4
 have c4:=@zjv gl (d+12) _ (by omega) S0 q0 hk (xls v h).nm hxn
 have c5:=@zjv gl (d+12) _ (by omega) S0 q0 hk h.nm hhn
 rw[<-hs0.cnt]at c4 c5
 have lp:=fun st hst=>@zpx gl _ (d+1) S0 h v hk hs0 hH hi.nm (vtn v.S h) st hst
 rw[hbs]at lp
 have n0:oat v.S.H (jls v h)=xls v h:=rfl
 have n1:(nxt h v).o=v.o++[xls v h]:=rfl
 have n2:(nxt h v).w=(v.w&&(!decide ((xls v h).tn=h.tn)||decide (cnt v.S (xls v h).nm<cnt v.S h.nm))):=rfl
 have n3:drp v.S (jls v h) (kls v h)=(nxt h v).S:=rfl
 rw[n0]at hx
 rw[n3]at c3
 have hap:=zg9 v.o (xls v h)
 have htk2:=ze2 v.o (oV (xls v h))
 have hs1:hs [xls v h]=[.agg [.str (xls v h).nm,i64 (xls v h).tn,i64 (xls v h).sz,i64 (xls v h).la]]:=rfl
 have hlim:=zjc (show v.o.length<=8192 by omega)
 rw[hs0.c]at c2 hf hcc
 unfold S28B
 rw[n1,n2]
 clear n0 n1 n2 n3 p2 p3 p4 p5
 have hjl:jls v h<v.S.H.length:=p1
 simp only[L28i,L28,m28]at lp
 generalize nxt h v=v2 at *
 generalize xls v h=x at *
 generalize jls v h=j at *
 generalize cnt v.S x.nm=cx at *
 generalize cnt v.S h.nm=ch at *
 generalize tot v.S=tS at *
 generalize hts:vtn v.S h=t at *
 rw[wE,wD]
 have fin:∀(N E:Int),call gl tab (d+12) 63 [i64 S0.c,.lst false sA (ac v.S.A),i64 h.tn,i64 h.sz] []=some (.agg [i64 N,i64 E],[],[])->(E=160/\t=h.tn\/E=0/\t=N) ->
   za1 [.slot 2,.slot 3,.slot 4,.slot 5,.slot 6,.key 2,.key 3,.key 4,.key 5,.mv 5 [0] 6050] (evC gl (call gl tab (d+12)) L28 (S28B S0 h v))=some ⟨[.set 6 (.bool (v.w&&(!decide (x.tn=h.tn)||decide (cx<ch)))),.set 5 (.ptr 5 []),.set 4 (.ptr 4 []),.set 3 (.ptr 3 []),.set 2 (.ptr 2 [])],[(6050,.grow sO (hs (v.o++[x]))),(5,.fix shR (.aggR [.sl 6050 [] 0 (v.o.length+1),sfV v2.S q0,i64 0])),(4,.fix shR Zr0),(3,.fix sO (oV h)),(2,.fix shB (sfV S0 q0))]⟩:=by
  intro N E g2 hE
  clear hts c2
  have main:∀w:Bool,w=(v.w&&(!decide (x.tn=h.tn)||decide (cx<ch)))->za1 [.slot 2,.slot 3,.slot 4,.slot 5,.slot 6,.key 2,.key 3,.key 4,.key 5,.mv 5 [0] 6050] (evC gl (call gl tab (d+12)) L28 (S28B S0 h v))=some ⟨[.set 6 (.bool w),.set 5 (.ptr 5 []),.set 4 (.ptr 4 []),.set 3 (.ptr 3 []),.set 2 (.ptr 2 [])],[(6050,.grow sO (hs (v.o++[x]))),(5,.fix shR (.aggR [.sl 6050 [] 0 (v.o.length+1),sfV v2.S q0,i64 0])),(4,.fix shR Zr0),(3,.fix sO (oV h)),(2,.fix shB (sfV S0 q0))]⟩:=by
   intro w hwe
   rcases hE with ⟨rfl,rfl⟩|⟨rfl,rfl⟩
   all_goals
    by_cases hs:x.tn=h.tn
    . have es:(x.tn==h.tn)=true:=by simpa using hs
      rw[decide_eq_true hs,wJ,wK]at hwe
      by_cases hq:cx<ch
      . rw[decide_eq_true hq,wF]at hwe
        subst hwe
        simp(disch:=apply zq;omega) only[go_sem,simprocAttr,↓Nat.reduceEqDiff,xx,L28,m28,S28B,c1,g2]
        rw[lp _ (by simp(disch:=apply zq;omega) only[go_sem,simprocAttr,↓Nat.reduceEqDiff,xx,zek,S28B])]
        simp(disch:=apply zq;omega) only[go_sem,simprocAttr,↓Nat.reduceEqDiff,xx,zek,zaa,hx,c3,c4,c5,es,hap,htk2,hlim]
      . rw[decide_eq_false hq,wH]at hwe
        subst hwe
        simp(disch:=apply zq;omega) only[go_sem,simprocAttr,↓Nat.reduceEqDiff,xx,L28,m28,S28B,c1,g2]
        rw[lp _ (by simp(disch:=apply zq;omega) only[go_sem,simprocAttr,↓Nat.reduceEqDiff,xx,zek,S28B])]
        simp(disch:=apply zq;omega) only[go_sem,simprocAttr,↓Nat.reduceEqDiff,xx,zek,zaa,hx,c3,c4,c5,es,hap,htk2,hlim]
    . have es:(x.tn==h.tn)=false:=by simpa using hs
      rw[decide_eq_false hs,wG,wL,wF]at hwe
      subst hwe
      simp(disch:=apply zq;omega) only[go_sem,simprocAttr,↓Nat.reduceEqDiff,xx,L28,m28,S28B,c1,g2]
      rw[lp _ (by simp(disch:=apply zq;omega) only[go_sem,simprocAttr,↓Nat.reduceEqDiff,xx,zek,S28B])]
      simp(disch:=apply zq;omega) only[go_sem,simprocAttr,↓Nat.reduceEqDiff,xx,zek,zaa,hx,c3,c4,c5,es,hap,htk2,hlim]
  exact main _ rfl
 rcases c2 with ⟨c2,ht⟩|c2
 . exact fin 0 160 c2 (.inl ⟨rfl,ht⟩)
 . exact fin t 0 c2 (.inr ⟨rfl,rfl⟩)
end Go.Proofs.S97
