/-
  Chapter 17: the object that is worth least. No condition.
-/
import Derived.Test.YthipjfnealbheaaGreatDoorW97G18x4
set_option linter.all false
open Nat renaming exists_eq_add_of_le'->wB,le_refl->wC,lt_trichotomy->wD
open List renaming length_eraseIdx->wE,getD_eq_getElem?_getD->wF,getElem?_eq_getElem->wG,length_append->wH,length_drop->wJ
namespace Go.Proofs.S97
open Go Go.Ev Go.Proofs Go.Proofs.S97.Q
variable {gl :Gl} {n:Nat}
open Go.Mp (esN fN MOk)
abbrev XA1 (S:Sf)(q:Fl)(tot:Int):AV:=.aggR [.agg [i64 S.c,.lst q.fa q.ma (ac S.A),.lst q.fh q.mh (hs S.H),skV S q],i64 tot,.mp 100002]
abbrev XB1 (S:Sf)(q:Fl)(tot:Int):AV:=.aggR [.aggR [i64 S.c,.lst q.fa q.ma (ac S.A),.sl 100002 [] 0 S.H.length,skV S q],i64 tot,.mp 100003]
def mst (S:Sf)(W:List Ob)(m:Mem):Nat->Nat×Mem
 | 0=>(0,m)
 | i+1=>(if les S (oat W (i+1)) (oat W (mst S W m i).1)<0 then i+1 else(mst S W m i).1,ask2 S (oat W (i+1)) (oat W (mst S W m i).1) (mst S W m i).2)
theorem zu9 (S:Sf)(W:List Ob)(m:Mem):∀i,(mst S W m i).1<=i
 | 0=>wC _
 | i+1=>by
   have:=zu9 S W m i
   rw[mst];simp only
   split<;>omega
theorem zi1 {S:Sf}{W:List Ob}{m:Mem}(h:MOk (cnt S) m.1):∀i,MOk (cnt S) (mst S W m i).2.1
 | 0=>h
 | i+1=>z4d (zi1 h i)
theorem qca {S:Sf}{W:List Ob}{m:Mem}{i:Nat}(h:les S (oat W (i+1)) (oat W (mst S W m i).1)<0):mst S W m (i+1)=(i+1,ask2 S (oat W (i+1)) (oat W (mst S W m i).1) (mst S W m i).2):=by rw[mst,if_pos h]
theorem qgs {S:Sf}{W:List Ob}{m:Mem}{i:Nat}(h:¬les S (oat W (i+1)) (oat W (mst S W m i).1)<0):mst S W m (i+1)=((mst S W m i).1,ask2 S (oat W (i+1)) (oat W (mst S W m i).1) (mst S W m i).2):=by rw[mst,if_neg h]
abbrev oV0 :AV:=.agg [.str [],i64 0,i64 0,i64 0]
def L65 :MC:=match m80 with| .seq _ (.seq _ (.seq _ (.seq (.seq _ (.block _ (.loop _ b))) _)))=>b|_=>.skip
def S65A (S:Sf)(q:Fl)(tot:Int)(W:List Ob)(m:Mem)(i:Nat):St :=
 ⟨[.set 6 (i64 ((i:Int)+1)),.set 5 (.ptr 5 []),.set 4 (.ptr 4 []),.set 1 (.fn 2000081 [.ptr 100001 []]),.set 0 (.sl 100000 [] 0 W.length)],[(100002,.mp (esN (mst S W m i).2.1) (mst S W m i).2.2),(100001,.fix shX (XA1 S q tot)),(100000,.grow sO (hs W)),(5,.fix sO (oV (oat W (mst S W m i).1))),(4,.fix sO oV0)]⟩
theorem qan [Nonempty (H.GlK gl)]{d:Nat}{S:Sf}{q:Fl}(hk:KOk S){tot:Int}{W:List Ob}(hW:∀i,i<W.length->(oat W i).nm.length<=5000)(hN:W.length<=8192){m:Mem}(hm:MOk (cnt S) m.1){i:Nat}(hi:i+1<W.length) :
  zba [.slot 0,.slot 1,.slot 4,.slot 5,.slot 6,.key 4,.key 5] (evC gl (call gl tab (d+12)) L65 (S65A S q tot W m i))=some (S65A S q tot W m (i+1)):=by
 have hx:=zdu hi
 have hl:=zu9 S W m i
 have c1:=@z6d gl (d+12) _ (by omega) S q hk (oat W (i+1)) (oat W (mst S W m i).1) (hW _ hi) (hW _ (by omega)) tot (mst S W m i).2 (zi1 hm i)
 have e1:((i+1:Nat):Int)=(i:Int)+1:=by omega
 unfold S65A
 by_cases hlt:les S (oat W (i+1)) (oat W (mst S W m i).1)<0
 . rw[qca hlt]
   generalize ask2 S (oat W (i+1)) (oat W (mst S W m i).1) (mst S W m i).2=m2 at *
   generalize les S (oat W (i+1)) (oat W (mst S W m i).1)=lv at *
   generalize oat W (mst S W m i).1=ob at *
   generalize (mst S W m i).2=m1 at *
   simp(disch:=apply zq;omega) only[go_sem,simprocAttr,↓Nat.reduceEqDiff,xx,L65,m80,zaa,hx,c1,e1]
 . rw[qgs hlt]
   generalize ask2 S (oat W (i+1)) (oat W (mst S W m i).1) (mst S W m i).2=m2 at *
   generalize les S (oat W (i+1)) (oat W (mst S W m i).1)=lv at *
   generalize oat W (mst S W m i).1=ob at *
   generalize (mst S W m i).2=m1 at *
   simp(disch:=apply zq;omega) only[go_sem,simprocAttr,↓Nat.reduceEqDiff,xx,L65,m80,zaa,hx,c1,e1]
theorem qce [Nonempty (H.GlK gl)](h:13<=n){S:Sf}{q:Fl}(hk:KOk S){tot:Int}{W:List Ob}(hW:∀i,i<W.length->(oat W i).nm.length<=5000)(hN:1<=W.length/\W.length<=8192){m:Mem}(hm:MOk (cnt S) m.1) :
  call gl tab n 80 [.sl 100000 [] 0 W.length,.fn 2000081 [.ptr 100001 []]] [(100000,.grow sO (hs W)),(100001,.fix shX (XA1 S q tot)),(100002,.mp (esN m.1) m.2)] =
   some (oV (oat W (mst S W m (W.length-1)).1),[(100000,.grow sO (hs W)),(100001,.fix shX (XA1 S q tot)),(100002,.mp (esN (mst S W m (W.length-1)).2.1) (mst S W m (W.length-1)).2.2)],[]):=by
 obtain⟨d,rfl⟩:=wB h
 have hst:=fun i (hi:i<W.length-1)=>@qan gl _ d S q hk tot W hW hN.2 m hm i (by omega)
 simp only[L65,m80]at hst
 have hx:=zdu (show 0<W.length by omega)
 have e1:((W.length-1:Nat):Int)+1=W.length:=by omega
 rw[za5 (fd:=fd80) rfl]
 simp(disch:=apply zq;omega) only[go_sem,simprocAttr,↓Nat.reduceEqDiff,xx,fd80,m80,zaa,hx]
 rw[zaj (S65A S q tot W m) (W.length-1) (by unfold LF;omega)]
 . unfold S65A
   rw[e1]
   generalize oat W (mst S W m (W.length-1)).1=ob at *
   generalize (mst S W m (W.length-1)).2=m1 at *
   simp(disch:=apply zq;omega) only[go_sem,simprocAttr,↓Nat.reduceEqDiff,xx,zaa]
 . simp(disch:=apply zq;omega) only[go_sem,simprocAttr,↓Nat.reduceEqDiff,xx,S65A,mst]
 . exact hst
 . unfold S65A
   rw[e1]
   simp(disch:=apply zq;omega) only[go_sem,simprocAttr,↓Nat.reduceEqDiff,xx,zaa]
def S65B (S:Sf)(q:Fl)(jk:List AV)(tot:Int)(W:List Ob)(m:Mem)(i:Nat):St :=
 ⟨[.set 6 (i64 ((i:Int)+1)),.set 5 (.ptr 5 []),.set 4 (.ptr 4 []),.set 1 (.fn 2000081 [.ptr 100001 []]),.set 0 (.sl 100000 [] 0 W.length)],[(100003,.mp (esN (mst S W m i).2.1) (mst S W m i).2.2),(100002,.grow sO (hs S.H++jk)),(100001,.fix shX (XB1 S q tot)),(100000,.grow sO (hs W)),(5,.fix sO (oV (oat W (mst S W m i).1))),(4,.fix sO oV0)]⟩
theorem qam [Nonempty (H.GlK gl)]{d:Nat}{S:Sf}{q:Fl}{jk:List AV}(hk:KOk S){tot:Int}{W:List Ob}(hW:∀i,i<W.length->(oat W i).nm.length<=5000)(hN:W.length<=8192){m:Mem}(hm:MOk (cnt S) m.1){i:Nat}(hi:i+1<W.length) :
  zba [.slot 0,.slot 1,.slot 4,.slot 5,.slot 6,.key 4,.key 5] (evC gl (call gl tab (d+12)) L65 (S65B S q jk tot W m i))=some (S65B S q jk tot W m (i+1)):=by
 have hx:=zdu hi
 have hl:=zu9 S W m i
 have c1:=@z6c gl (d+12) _ (by omega) S q jk hk (oat W (i+1)) (oat W (mst S W m i).1) (hW _ hi) (hW _ (by omega)) tot (mst S W m i).2 (zi1 hm i)
 have e1:((i+1:Nat):Int)=(i:Int)+1:=by omega
 unfold S65B
 by_cases hlt:les S (oat W (i+1)) (oat W (mst S W m i).1)<0
 . rw[qca hlt]
   generalize ask2 S (oat W (i+1)) (oat W (mst S W m i).1) (mst S W m i).2=m2 at *
   generalize les S (oat W (i+1)) (oat W (mst S W m i).1)=lv at *
   generalize oat W (mst S W m i).1=ob at *
   generalize (mst S W m i).2=m1 at *
   simp(disch:=apply zq;omega) only[go_sem,simprocAttr,↓Nat.reduceEqDiff,xx,L65,m80,zaa,hx,c1,e1]
 . rw[qgs hlt]
   generalize ask2 S (oat W (i+1)) (oat W (mst S W m i).1) (mst S W m i).2=m2 at *
   generalize les S (oat W (i+1)) (oat W (mst S W m i).1)=lv at *
   generalize oat W (mst S W m i).1=ob at *
   generalize (mst S W m i).2=m1 at *
   simp(disch:=apply zq;omega) only[go_sem,simprocAttr,↓Nat.reduceEqDiff,xx,L65,m80,zaa,hx,c1,e1]
theorem qcd [Nonempty (H.GlK gl)](h:13<=n){S:Sf}{q:Fl}{jk:List AV}(hk:KOk S){tot:Int}{W:List Ob}(hW:∀i,i<W.length->(oat W i).nm.length<=5000)(hN:1<=W.length/\W.length<=8192){m:Mem}(hm:MOk (cnt S) m.1) :
  call gl tab n 80 [.sl 100000 [] 0 W.length,.fn 2000081 [.ptr 100001 []]] [(100000,.grow sO (hs W)),(100001,.fix shX (XB1 S q tot)),(100002,.grow sO (hs S.H++jk)),(100003,.mp (esN m.1) m.2)] =
   some (oV (oat W (mst S W m (W.length-1)).1),[(100000,.grow sO (hs W)),(100001,.fix shX (XB1 S q tot)),(100002,.grow sO (hs S.H++jk)),(100003,.mp (esN (mst S W m (W.length-1)).2.1) (mst S W m (W.length-1)).2.2)],[]):=by
 obtain⟨d,rfl⟩:=wB h
 have hst:=fun i (hi:i<W.length-1)=>@qam gl _ d S q jk hk tot W hW hN.2 m hm i (by omega)
 simp only[L65,m80]at hst
 have hx:=zdu (show 0<W.length by omega)
 have e1:((W.length-1:Nat):Int)+1=W.length:=by omega
 rw[za5 (fd:=fd80) rfl]
 simp(disch:=apply zq;omega) only[go_sem,simprocAttr,↓Nat.reduceEqDiff,xx,fd80,m80,zaa,hx]
 rw[zaj (S65B S q jk tot W m) (W.length-1) (by unfold LF;omega)]
 . unfold S65B
   rw[e1]
   generalize oat W (mst S W m (W.length-1)).1=ob at *
   generalize (mst S W m (W.length-1)).2=m1 at *
   simp(disch:=apply zq;omega) only[go_sem,simprocAttr,↓Nat.reduceEqDiff,xx,zaa]
 . simp(disch:=apply zq;omega) only[go_sem,simprocAttr,↓Nat.reduceEqDiff,xx,S65B,mst]
 . exact hst
 . unfold S65B
   rw[e1]
   simp(disch:=apply zq;omega) only[go_sem,simprocAttr,↓Nat.reduceEqDiff,xx,zaa]
end Go.Proofs.S97
namespace Go.Proofs.S97
open Go Go.Ev Go.Proofs Go.Proofs.S97.Q
variable {gl :Gl} {n:Nat}
open Go.Mp (esN fN MOk)
theorem z9m (h:1<=n){l:List Ob}{k:Nat}(hk:k<l.length)(hl:l.length<=8192) :
  call gl tab n 70 [.sl 100000 [] 0 l.length,i64 k,i64 ((k:Int)+1)] [(100000,.grow sO (hs l))]=some (.sl 100000 [] 0 (l.length-1),[(100000,.grow sO (hs (l.eraseIdx k)++[.agg [.str [],i64 0,i64 0,i64 0]]))],[]):=by
 obtain⟨d,rfl⟩:=wB h
 have e1:((k:Int)==(k:Int)+1)=false:=by rw[beq_eq_false_iff_ne];omega
 have e2:List.take (l.length-(k+1)) (List.drop (k+1) (hs l))=hs (l.drop (k+1)):=by
  rw[List.take_of_length_le (by simp[zaa])];simp[hs]
 have e3:(hs (l.drop (k+1))).length=l.length-(k+1):=by rw[zaa,wJ]
 have e5:decide (k+(l.length-(k+1))<=l.length)=true:=decide_eq_true (by omega)
 have e6:k+(l.length-(k+1))=l.length-1:=by omega
 have e7:List.take k (hs l)=hs (l.take k):=by simp[hs,List.map_take]
 have e8:List.drop (l.length-1) (hs l)=hs (l.drop (l.length-1)):=by simp[hs]
 have e9:(hs (l.take k)).length=k:=by rw[zaa,List.length_take];omega
 have e10:(hs (l.drop (l.length-1))).length=1:=by rw[zaa,wJ];omega
 have e11:hs (l.take k)++hs (l.drop (k+1))=hs (l.eraseIdx k):=by rw[List.eraseIdx_eq_take_drop_succ];simp[hs]
 have e12:(hs (l.eraseIdx k)).length=l.length-1:=by rw[zaa,wE,if_pos hk]
 have e14:(l.eraseIdx k).length=l.length-1:=by rw[wE,if_pos hk]
 have e13:l.length-(l.length-1)=1:=by omega
 rw[za5 (fd:=fd70) rfl]
 simp(disch:=apply zq;omega) only[go_sem,simprocAttr,↓Nat.reduceEqDiff,xx,fd70,m70,zaa,e1,e2,e3,Nat.sub_zero,false_and,decide_false,e5,e6,e7,e8,e9,e10,e11,e13,e14,wH]
 rw[List.take_append_of_le_length (by omega),<-e12,List.take_length,e12,List.drop_of_length_le (by simp only[wH,e12,e10];omega)]
 simp only[List.append_nil]
theorem zfs :∀(l:List Ob),zcy (hs l)=true
 | []=>rfl
 | o::l=>by
   show(zc5 (oV o)&&zcy (hs l))=true
   rw[zfs l];rfl
theorem ztt (l:List Ob)(jk:List AV):(hs l++jk).take l.length=hs l:=by rw[<-zaa,List.take_left]
theorem zg9 (h:1<=n){f:Bool}{l:List Ob}(hl:l.length<=8192):call gl tab n 26 [.lst f sO (hs l)] []=some (.sl 20000 [] 0 l.length,[],[.grow sO (hs l)]):=by
 obtain⟨d,rfl⟩:=wB h
 have hn:=zfs l
 rw[zei (fd:=fd26) rfl rfl]
 have h1:l.length<=LIM:=by unfold LIM;omega
 simp[zh1,zaa,h1,Sh.beq,Sh.beqs]
abbrev XR (S:Sf)(A:List A3)(q:Fl)(tot:Int)(kh nh km:Nat):AV:=.aggR [.aggR [i64 S.c,.lst false sA (ac A),.sl kh [] 0 nh,skV S q],i64 tot,.mp km]
theorem zv4 (h:7<=n){S:Sf}{fh fl:Bool}{mh:Sh}(hmh:Mk S.H mh sO)(hH:S.H.length<=8192)(hS:Srt S.H)(hv:VA S.A)(ht:Tn S.A){j k:Nat}(hj:j<S.H.length)(hk:k<S.A.length)(hkq:(aat S.A k).t=(oat S.H j).tn)(hq:I64 (oat S.H j).tn)(hsz:0<=(oat S.H j).sz/\(oat S.H j).sz<=(aat S.A k).u){tot:Int}(htot:0<=tot/\tot<=2^60){es:List (AV×AV×Nat)}{c:Nat} :
  call gl tab n 41 [.ptr 100000 [],oV (oat S.H j)] [(100000,.fix shX (XA S ⟨false,fh,fl,sA,mh⟩ tot)),(100001,.mp es c)] =
   some (.tup [],[(100000,.fix shX (XR S (updA S.A k (-(oat S.H j).sz)) ⟨false,fh,fl,sA,mh⟩ (tot-(oat S.H j).sz) 20000 (S.H.length-1) 100001)),(100001,.mp es c)],[.grow sO (hs (S.H.eraseIdx j)++[oV0])]):=by
 obtain⟨d,rfl⟩:=wB h
 have hne:=hmh.eq hj
 subst hne
 obtain⟨j',hp,c1⟩:=@zfg gl (d+6) (by omega) fh sO S.H (.inr rfl) hH hS (oat S.H j).nm
 have hjj:j=j':=by
  rcases wD j j' with h3|h3|h3
  . have:=hp.lo j h3;rw[Bl.irrefl]at this;cases this
  . exact h3
  . have:=hp.hi j' (wC _) (by omega);rw[hS j' j h3 hj]at this;cases this
 subst hjj
 have c2:=fun f=>@zg9 gl (d+6) (by omega) f S.H hH
 have c3:=@z9m gl (d+6) (by omega) S.H j hj hH
 have hu:=hv.ok k hk
 have he:uerr S.A k (-(oat S.H j).sz) true=0:=by rw[uerr,if_pos rfl,if_neg];have:=hu.u;omega
 have c4:=@zsm gl (d+6) (by omega) S.A hv ht (oat S.H j).tn (-(oat S.H j).sz) hq k hk hkq he
 have hu:=hu.u
 have hn:=zfs S.H
 have htk:=fun jk=>ztt S.H jk
 generalize isAt S.H (oat S.H j).nm j=bj at *
 generalize oat S.H j=o at *
 rw[za5 (fd:=fd41) rfl]
 simp(disch:=apply zq;omega) only[go_sem,simprocAttr,↓Nat.reduceEqDiff,xx,fd41,m41,c1,c2,c3,c4,hn,zaa,Int.zero_sub,htk]
theorem z70 (h:7<=n){S:Sf}{fh fl:Bool}{mh:Sh}{jk:List AV}(hmh:Mk S.H mh sO)(hH:S.H.length<=8192)(hS:Srt S.H)(hv:VA S.A)(ht:Tn S.A){j k:Nat}(hj:j<S.H.length)(hk:k<S.A.length)(hkq:(aat S.A k).t=(oat S.H j).tn)(hq:I64 (oat S.H j).tn)(hsz:0<=(oat S.H j).sz/\(oat S.H j).sz<=(aat S.A k).u){tot:Int}(htot:0<=tot/\tot<=2^60){es:List (AV×AV×Nat)}{c:Nat} :
  call gl tab n 41 [.ptr 100000 [],oV (oat S.H j)] [(100000,.fix shX (XB S ⟨false,fh,fl,sA,mh⟩ tot)),(100001,.grow sO (hs S.H++jk)),(100002,.mp es c)] =
   some (.tup [],[(100000,.fix shX (XR S (updA S.A k (-(oat S.H j).sz)) ⟨false,fh,fl,sA,mh⟩ (tot-(oat S.H j).sz) 20000 (S.H.length-1) 100002)),(100001,.grow sO (hs S.H++jk)),(100002,.mp es c)],[.grow sO (hs (S.H.eraseIdx j)++[oV0])]):=by
 obtain⟨d,rfl⟩:=wB h
 have hne:=hmh.eq hj
 subst hne
 obtain⟨j',hp,c1⟩:=@zfg gl (d+6) (by omega) false sO S.H (.inr rfl) hH hS (oat S.H j).nm
 have hjj:j=j':=by
  rcases wD j j' with h3|h3|h3
  . have:=hp.lo j h3;rw[Bl.irrefl]at this;cases this
  . exact h3
  . have:=hp.hi j' (wC _) (by omega);rw[hS j' j h3 hj]at this;cases this
 subst hjj
 have c2:=fun f=>@zg9 gl (d+6) (by omega) f S.H hH
 have c3:=@z9m gl (d+6) (by omega) S.H j hj hH
 have hu:=hv.ok k hk
 have he:uerr S.A k (-(oat S.H j).sz) true=0:=by rw[uerr,if_pos rfl,if_neg];have:=hu.u;omega
 have c4:=@zsm gl (d+6) (by omega) S.A hv ht (oat S.H j).tn (-(oat S.H j).sz) hq k hk hkq he
 have hu:=hu.u
 have hn:=zfs S.H
 have htk:=fun jk=>ztt S.H jk
 generalize isAt S.H (oat S.H j).nm j=bj at *
 generalize oat S.H j=o at *
 rw[za5 (fd:=fd41) rfl]
 simp(disch:=apply zq;omega) only[go_sem,simprocAttr,↓Nat.reduceEqDiff,xx,fd41,m41,c1,c2,c3,c4,hn,zaa,Int.zero_sub,htk]
end Go.Proofs.S97
namespace Go.Proofs.S97
open Go Go.Ev Go.Proofs Go.Proofs.S97.Q
theorem zne (x:Ob)(l:List Ob)(i:Nat):oat (x::l) (i+1)=oat l i:=by simp[oat]
theorem zxh (x:Ob)(l:List Ob):oat (x::l) 0=x:=rfl
theorem zfo {l:List Ob}{j:Nat}(hj:j<l.length)(i:Nat):oat (l.eraseIdx j) i=if i<j then oat l i else oat l (i+1):=by
 unfold oat
 simp only[wF,List.getElem?_eraseIdx]
 split<;>rfl
theorem zcl {S:Sf}(h:∀i,i<S.H.length->HOk S i):Srt S.H:=by
 intro i j
 induction j with
 | zero=>intro h1;omega
 | succ j ih =>
   intro h1 h2
   have h3:=(h (j+1) h2).o (by omega)
   rw[show j+1-1=j by omega]at h3
   by_cases e:i=j
   . rw[e];exact h3
   . exact Bl.trans (ih (by omega) (by omega)) h3
theorem zzr {l:List Ob}(h:Srt l){j:Nat}(hj:j<l.length):Srt (l.eraseIdx j):=by
 intro a b hab hb
 rw[wE,if_pos hj]at hb
 rw[zfo hj,zfo hj]
 split<;>split
 . exact h a b hab (by omega)
 . exact h a (b+1) (by omega) (by omega)
 . omega
 . exact h (a+1) (b+1) (by omega) (by omega)
def usL (t:Int):List Ob->Int
 | []=>0
 | x::l=>(if x.tn=t then x.sz else 0)+usL t l
theorem zuo (x:Ob)(l:List Ob)(t:Int):∀i,usd (x::l) t (i+1)=(if x.tn=t then x.sz else 0)+usd l t i
 | 0=>by simp[usd,oat]
 | i+1=>by
   rw[usd,zuo x l t i,zne,usd];omega
theorem zje (t:Int):∀l:List Ob,usd l t l.length=usL t l
 | []=>rfl
 | x::l=>by rw[List.length_cons,zuo,zje t l,usL]
theorem zqf (t:Int):∀{l:List Ob} {j:Nat},j<l.length->usL t (l.eraseIdx j)=usL t l-if(oat l j).tn=t then(oat l j).sz else 0
 | [],_,h=>by simp at h
 | x::l,0,_=>by rw[List.eraseIdx_cons_zero,usL,zxh];omega
 | x::l,j+1,h=>by
   rw[List.eraseIdx_cons_succ,usL,usL,zqf t (by simpa using h),zne];omega
theorem zk7 {l:List Ob}{j:Nat}(hj:j<l.length)(t:Int):usd (l.eraseIdx j) t (l.length-1)=usd l t l.length-if(oat l j).tn=t then(oat l j).sz else 0:=by
 have e:(l.eraseIdx j).length=l.length-1:=by rw[wE,if_pos hj]
 rw[<-e,zje,zje,zqf t hj]
theorem z8s {t:Int}:∀{l:List Ob},(∀x∈l,1<=x.sz)->0<=usL t l
 | [],_=>Int.le_refl _
 | x::l,h=>by
   have:=z8s (t:=t) (l:=l) fun y hy=>h y (by simp[hy])
   have:=h x (by simp)
   rw[usL];split<;>omega
theorem zte {l:List Ob}{i:Nat}(h:i<l.length):oat l i∈l:=by
 unfold oat
 rw[wF,wG h];exact List.getElem_mem h
theorem qcf {l:List Ob}{x:Ob}(h:x∈l):∃i,i<l.length/\oat l i=x:=by
 obtain⟨i,hi,e⟩:=List.getElem_of_mem h
 exact⟨i,hi,by unfold oat;rw[wF,wG hi];exact e⟩
theorem zun {l:List Ob}(hr:RL l){j:Nat}(hj:j<l.length):(oat l j).sz<=usd l (oat l j).tn l.length:=by
 have h1:=zk7 hj (oat l j).tn
 rw[if_pos rfl]at h1
 have e:(l.eraseIdx j).length=l.length-1:=by rw[wE,if_pos hj]
 rw[<-e,zje]at h1
 have h2:=z8s (t:=(oat l j).tn) (l:=l.eraseIdx j) fun x hx=>by
  obtain⟨i,hi,rfl⟩:=qcf (List.mem_of_mem_eraseIdx hx)
  exact(hr i hi).sz.1
 omega
theorem zku {l:List A3}{k:Nat}(hk:k<l.length)(v:Int):∀i,sumU (updA l k v) i=sumU l i+if k<i then v else 0
 | 0=>by simp[sumU]
 | i+1=>by
   rw[sumU,zku hk v i,sumU,zgn hk]
   by_cases h:i=k
   . subst h;rw[if_pos rfl,if_neg (Nat.lt_irrefl _),if_pos (by omega)];simp only;omega
   . rw[if_neg h]
     by_cases h2:k<i
     . rw[if_pos h2,if_pos (by omega)];omega
     . rw[if_neg h2,if_neg (by omega)];omega
theorem zk8 {l:List A3}{k:Nat}(hk:k<l.length)(v:Int)(i:Nat):(aat (updA l k v) i).t=(aat l i).t:=by
 rw[zgn hk]
 split
 . rename_i e;rw[e]
 . rfl
def drp (S:Sf)(j k:Nat):Sf:=⟨S.c,updA S.A k (-(oat S.H j).sz),S.H.eraseIdx j,S.w,S.s,S.a,S.L⟩
theorem zr2 {S:Sf}(hv:VSf S){j k:Nat}(hj:j<S.H.length)(hk:k<S.A.length)(hkt:(aat S.A k).t=(oat S.H j).tn):VSf (drp S j k):=by
 have hR:RL S.H:=fun i hi=>(hv.ho i hi).r
 have hlen:(S.H.eraseIdx j).length=S.H.length-1:=by rw[wE,if_pos hj]
 have hu:=hv.hu k hk
 have hge:=zun hR hj
 rw[<-hkt,<-hu]at hge
 have hsz:=(hR j hj).sz
 have hkv:=hv.va.ok k hk
 have he:uerr S.A k (-(oat S.H j).sz) true=0:=by rw[uerr,if_pos rfl,if_neg];have:=hkv.u;omega
 have hsrt:=zzr (zcl hv.ho) hj
 refine⟨hv.c,zm2 hv.va hk he,hv.vk,?_,?_,?_,?_⟩
 . show(S.H.eraseIdx j).length<=4096
   have:=hv.hn;omega
 . intro i hi
   have hi':i<S.H.length-1:=by rw[<-hlen];exact hi
   refine⟨?_,fun h0=>hsrt (i-1) i (by omega) hi,?_⟩
   . show ROk (oat (S.H.eraseIdx j) i)
     rw[zfo hj]
     split
     . exact hR i (by omega)
     . exact hR (i+1) (by omega)
   . have:∃k',k'<S.A.length/\(aat S.A k').t=(oat (S.H.eraseIdx j) i).tn:=by
      rw[zfo hj]
      split
      . exact(hv.ho i (by omega)).t
      . exact(hv.ho (i+1) (by omega)).t
     obtain⟨k',hk',e⟩:=this
     exact⟨k',by show k'<(updA _ _ _).length;rw[za3];exact hk',by show(aat (updA _ _ _) k').t=_;rw[zk8 hk];exact e⟩
 . intro k' hk'
   have hk2:k'<S.A.length:=by have:k'<(updA S.A k (-(oat S.H j).sz)).length:=hk';rwa [za3]at this
   show(aat (updA S.A k (-(oat S.H j).sz)) k').u=usd (S.H.eraseIdx j) (aat (updA S.A k (-(oat S.H j).sz)) k').t (S.H.eraseIdx j).length
   rw[hlen,zk8 hk,zk7 hj,zgn hk]
   by_cases e:k'=k
   . subst e
     rw[if_pos rfl,if_pos hkt.symm]
     simp only
     rw[hu];omega
   . rw[if_neg e,if_neg,hv.hu k' hk2]
     . omega
     . intro h
       exact e (zjg hv.va hk2 hk (h.symm.trans hkt.symm))
 . show sumU (updA S.A k (-(oat S.H j).sz)) (updA S.A k (-(oat S.H j).sz)).length<=S.c
   rw[za3,zku hk,if_pos hk]
   have:=hv.ht;omega
theorem qh6 {S:Sf}(h:Tn S.A){j k:Nat}(hk:k<S.A.length):Tn (drp S j k).A:=fun i hi=>by
 show(aat (updA _ _ _) i).t<=_
 rw[zk8 hk]
 refine h i ?_
 have:i<(updA S.A k (-(oat S.H j).sz)).length:=hi
 rwa [za3]at this
end Go.Proofs.S97
