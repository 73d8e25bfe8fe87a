/-
  Chapter 17: the object that is worth least. No condition.
-/
import Derived.Test.YthipjfnealbheaaDoorW17G21x3
set_option linter.all false
open Nat renaming exists_eq_add_of_le'->wB,le_refl->wC,lt_trichotomy->wD
open List renaming length_eraseIdx->wE,length_append->wF,length_drop->wG
namespace Go.Proofs.S17
open Go Go.Ev Go.Proofs Go.Proofs.S17.Q
variable {gl :Gl} {n:Nat}
open Go.Mp (esN fN MOk)
abbrev XA1 (S:Sf)(q:Fl)(tot:Int):AV:=.aggR [.agg [i64 S.c,.lst q.fa q.ma (ac S.A),.lst q.fh q.mh (hs S.H),skV S q],i64 tot,.mp 100002]
abbrev XB1 (S:Sf)(q:Fl)(tot:Int):AV:=.aggR [.aggR [i64 S.c,.lst q.fa q.ma (ac S.A),.sl 100002 [] 0 S.H.length,skV S q],i64 tot,.mp 100003]
def mst (S:Sf)(W:List Ob)(m:Mem):Nat->Nat×Mem
 | 0=>(0,m)
 | i+1=>(if les S (oat W (i+1)) (oat W (mst S W m i).1)<0 then i+1 else(mst S W m i).1,ask2 S (oat W (i+1)) (oat W (mst S W m i).1) (mst S W m i).2)
theorem ztx (S:Sf)(W:List Ob)(m:Mem):∀i,(mst S W m i).1<=i
 | 0=>wC _
 | i+1=>by
   have:=ztx S W m i
   rw[mst];simp only
   split<;>omega
theorem zie {S:Sf}{W:List Ob}{m:Mem}(h:MOk (cnt S) m.1):∀i,MOk (cnt S) (mst S W m i).2.1
 | 0=>h
 | i+1=>z2d (zie h i)
theorem z9g {S:Sf}{W:List Ob}{m:Mem}{i:Nat}(h:les S (oat W (i+1)) (oat W (mst S W m i).1)<0):mst S W m (i+1)=(i+1,ask2 S (oat W (i+1)) (oat W (mst S W m i).1) (mst S W m i).2):=by rw[mst,if_pos h]
theorem qdn {S:Sf}{W:List Ob}{m:Mem}{i:Nat}(h:¬les S (oat W (i+1)) (oat W (mst S W m i).1)<0):mst S W m (i+1)=((mst S W m i).1,ask2 S (oat W (i+1)) (oat W (mst S W m i).1) (mst S W m i).2):=by rw[mst,if_neg h]
abbrev oV0 :AV:=.agg [.str [],i64 0,i64 0,i64 0]
def L65 :MC:=match m65 with| .seq _ (.seq _ (.seq _ (.seq (.seq _ (.block _ (.loop _ b))) _)))=>b|_=>.skip
def S65A (S:Sf)(q:Fl)(tot:Int)(W:List Ob)(m:Mem)(i:Nat):St :=
 ⟨[.set 6 (i64 ((i:Int)+1)),.set 5 (.ptr 5 []),.set 4 (.ptr 4 []),.set 1 (.fn 2000066 [.ptr 100001 []]),.set 0 (.sl 100000 [] 0 W.length)],[(100002,.mp (esN (mst S W m i).2.1) (mst S W m i).2.2),(100001,.fix shX (XA1 S q tot)),(100000,.grow sO (hs W)),(5,.fix sO (oV (oat W (mst S W m i).1))),(4,.fix sO oV0)]⟩
theorem z71 [Nonempty (H.GlK gl)]{d:Nat}{S:Sf}{q:Fl}(hk:KOk S){tot:Int}{W:List Ob}(hW:∀i,i<W.length->(oat W i).nm.length<=5000)(hN:W.length<=8192){m:Mem}(hm:MOk (cnt S) m.1){i:Nat}(hi:i+1<W.length) :
  zbn [.slot 0,.slot 1,.slot 4,.slot 5,.slot 6,.key 4,.key 5] (evC gl (call gl tab (d+12)) L65 (S65A S q tot W m i))=some (S65A S q tot W m (i+1)):=by
 have hx:=zfe hi
 have hl:=ztx S W m i
 have c1:=@z4b gl (d+12) _ (by omega) S q hk (oat W (i+1)) (oat W (mst S W m i).1) (hW _ hi) (hW _ (by omega)) tot (mst S W m i).2 (zie hm i)
 have e1:((i+1:Nat):Int)=(i:Int)+1:=by omega
 unfold S65A
 by_cases hlt:les S (oat W (i+1)) (oat W (mst S W m i).1)<0
 . rw[z9g hlt]
   generalize ask2 S (oat W (i+1)) (oat W (mst S W m i).1) (mst S W m i).2=m2 at *
   generalize les S (oat W (i+1)) (oat W (mst S W m i).1)=lv at *
   generalize oat W (mst S W m i).1=ob at *
   generalize (mst S W m i).2=m1 at *
   simp(disch:=apply zq;omega) only[go_sem,simprocAttr,↓Nat.reduceEqDiff,xx,L65,m65,zaa,hx,c1,e1]
 . rw[qdn hlt]
   generalize ask2 S (oat W (i+1)) (oat W (mst S W m i).1) (mst S W m i).2=m2 at *
   generalize les S (oat W (i+1)) (oat W (mst S W m i).1)=lv at *
   generalize oat W (mst S W m i).1=ob at *
   generalize (mst S W m i).2=m1 at *
   simp(disch:=apply zq;omega) only[go_sem,simprocAttr,↓Nat.reduceEqDiff,xx,L65,m65,zaa,hx,c1,e1]
theorem z9k [Nonempty (H.GlK gl)](h:13<=n){S:Sf}{q:Fl}(hk:KOk S){tot:Int}{W:List Ob}(hW:∀i,i<W.length->(oat W i).nm.length<=5000)(hN:1<=W.length/\W.length<=8192){m:Mem}(hm:MOk (cnt S) m.1) :
  call gl tab n 65 [.sl 100000 [] 0 W.length,.fn 2000066 [.ptr 100001 []]] [(100000,.grow sO (hs W)),(100001,.fix shX (XA1 S q tot)),(100002,.mp (esN m.1) m.2)] =
   some (oV (oat W (mst S W m (W.length-1)).1),[(100000,.grow sO (hs W)),(100001,.fix shX (XA1 S q tot)),(100002,.mp (esN (mst S W m (W.length-1)).2.1) (mst S W m (W.length-1)).2.2)],[]):=by
 obtain⟨d,rfl⟩:=wB h
 have hst:=fun i (hi:i<W.length-1)=>@z71 gl _ d S q hk tot W hW hN.2 m hm i (by omega)
 simp only[L65,m65]at hst
 have hx:=zfe (show 0<W.length by omega)
 have e1:((W.length-1:Nat):Int)+1=W.length:=by omega
 rw[zbe (fd:=fd65) rfl]
 simp(disch:=apply zq;omega) only[go_sem,simprocAttr,↓Nat.reduceEqDiff,xx,fd65,m65,zaa,hx]
 rw[zam (S65A S q tot W m) (W.length-1) (by unfold LF;omega)]
 . unfold S65A
   rw[e1]
   generalize oat W (mst S W m (W.length-1)).1=ob at *
   generalize (mst S W m (W.length-1)).2=m1 at *
   simp(disch:=apply zq;omega) only[go_sem,simprocAttr,↓Nat.reduceEqDiff,xx,zaa]
 . simp(disch:=apply zq;omega) only[go_sem,simprocAttr,↓Nat.reduceEqDiff,xx,S65A,mst]
 . exact hst
 . unfold S65A
   rw[e1]
   simp(disch:=apply zq;omega) only[go_sem,simprocAttr,↓Nat.reduceEqDiff,xx,zaa]
def S65B (S:Sf)(q:Fl)(jk:List AV)(tot:Int)(W:List Ob)(m:Mem)(i:Nat):St :=
 ⟨[.set 6 (i64 ((i:Int)+1)),.set 5 (.ptr 5 []),.set 4 (.ptr 4 []),.set 1 (.fn 2000066 [.ptr 100001 []]),.set 0 (.sl 100000 [] 0 W.length)],[(100003,.mp (esN (mst S W m i).2.1) (mst S W m i).2.2),(100002,.grow sO (hs S.H++jk)),(100001,.fix shX (XB1 S q tot)),(100000,.grow sO (hs W)),(5,.fix sO (oV (oat W (mst S W m i).1))),(4,.fix sO oV0)]⟩
theorem z70 [Nonempty (H.GlK gl)]{d:Nat}{S:Sf}{q:Fl}{jk:List AV}(hk:KOk S){tot:Int}{W:List Ob}(hW:∀i,i<W.length->(oat W i).nm.length<=5000)(hN:W.length<=8192){m:Mem}(hm:MOk (cnt S) m.1){i:Nat}(hi:i+1<W.length) :
  zbn [.slot 0,.slot 1,.slot 4,.slot 5,.slot 6,.key 4,.key 5] (evC gl (call gl tab (d+12)) L65 (S65B S q jk tot W m i))=some (S65B S q jk tot W m (i+1)):=by
 have hx:=zfe hi
 have hl:=ztx S W m i
 have c1:=@z4a gl (d+12) _ (by omega) S q jk hk (oat W (i+1)) (oat W (mst S W m i).1) (hW _ hi) (hW _ (by omega)) tot (mst S W m i).2 (zie hm i)
 have e1:((i+1:Nat):Int)=(i:Int)+1:=by omega
 unfold S65B
 by_cases hlt:les S (oat W (i+1)) (oat W (mst S W m i).1)<0
 . rw[z9g hlt]
   generalize ask2 S (oat W (i+1)) (oat W (mst S W m i).1) (mst S W m i).2=m2 at *
   generalize les S (oat W (i+1)) (oat W (mst S W m i).1)=lv at *
   generalize oat W (mst S W m i).1=ob at *
   generalize (mst S W m i).2=m1 at *
   simp(disch:=apply zq;omega) only[go_sem,simprocAttr,↓Nat.reduceEqDiff,xx,L65,m65,zaa,hx,c1,e1]
 . rw[qdn hlt]
   generalize ask2 S (oat W (i+1)) (oat W (mst S W m i).1) (mst S W m i).2=m2 at *
   generalize les S (oat W (i+1)) (oat W (mst S W m i).1)=lv at *
   generalize oat W (mst S W m i).1=ob at *
   generalize (mst S W m i).2=m1 at *
   simp(disch:=apply zq;omega) only[go_sem,simprocAttr,↓Nat.reduceEqDiff,xx,L65,m65,zaa,hx,c1,e1]
theorem z9j [Nonempty (H.GlK gl)](h:13<=n){S:Sf}{q:Fl}{jk:List AV}(hk:KOk S){tot:Int}{W:List Ob}(hW:∀i,i<W.length->(oat W i).nm.length<=5000)(hN:1<=W.length/\W.length<=8192){m:Mem}(hm:MOk (cnt S) m.1) :
  call gl tab n 65 [.sl 100000 [] 0 W.length,.fn 2000066 [.ptr 100001 []]] [(100000,.grow sO (hs W)),(100001,.fix shX (XB1 S q tot)),(100002,.grow sO (hs S.H++jk)),(100003,.mp (esN m.1) m.2)] =
   some (oV (oat W (mst S W m (W.length-1)).1),[(100000,.grow sO (hs W)),(100001,.fix shX (XB1 S q tot)),(100002,.grow sO (hs S.H++jk)),(100003,.mp (esN (mst S W m (W.length-1)).2.1) (mst S W m (W.length-1)).2.2)],[]):=by
 obtain⟨d,rfl⟩:=wB h
 have hst:=fun i (hi:i<W.length-1)=>@z70 gl _ d S q jk hk tot W hW hN.2 m hm i (by omega)
 simp only[L65,m65]at hst
 have hx:=zfe (show 0<W.length by omega)
 have e1:((W.length-1:Nat):Int)+1=W.length:=by omega
 rw[zbe (fd:=fd65) rfl]
 simp(disch:=apply zq;omega) only[go_sem,simprocAttr,↓Nat.reduceEqDiff,xx,fd65,m65,zaa,hx]
 rw[zam (S65B S q jk tot W m) (W.length-1) (by unfold LF;omega)]
 . unfold S65B
   rw[e1]
   generalize oat W (mst S W m (W.length-1)).1=ob at *
   generalize (mst S W m (W.length-1)).2=m1 at *
   simp(disch:=apply zq;omega) only[go_sem,simprocAttr,↓Nat.reduceEqDiff,xx,zaa]
 . simp(disch:=apply zq;omega) only[go_sem,simprocAttr,↓Nat.reduceEqDiff,xx,S65B,mst]
 . exact hst
 . unfold S65B
   rw[e1]
   simp(disch:=apply zq;omega) only[go_sem,simprocAttr,↓Nat.reduceEqDiff,xx,zaa]
end Go.Proofs.S17
namespace Go.Proofs.S17
open Go Go.Ev Go.Proofs Go.Proofs.S17.Q
variable {gl :Gl} {n:Nat}
open Go.Mp (esN fN MOk)
theorem z6z (h:1<=n){l:List Ob}{k:Nat}(hk:k<l.length)(hl:l.length<=8192) :
  call gl tab n 59 [.sl 100000 [] 0 l.length,i64 k,i64 ((k:Int)+1)] [(100000,.grow sO (hs l))]=some (.sl 100000 [] 0 (l.length-1),[(100000,.grow sO (hs (l.eraseIdx k)++[.agg [.str [],i64 0,i64 0,i64 0]]))],[]):=by
 obtain⟨d,rfl⟩:=wB h
 have e1:((k:Int)==(k:Int)+1)=false:=by rw[beq_eq_false_iff_ne];omega
 have e2:List.take (l.length-(k+1)) (List.drop (k+1) (hs l))=hs (l.drop (k+1)):=by
  rw[List.take_of_length_le (by simp[zaa])];simp[hs]
 have e3:(hs (l.drop (k+1))).length=l.length-(k+1):=by rw[zaa,wG]
 have e5:decide (k+(l.length-(k+1))<=l.length)=true:=decide_eq_true (by omega)
 have e6:k+(l.length-(k+1))=l.length-1:=by omega
 have e7:List.take k (hs l)=hs (l.take k):=by simp[hs,List.map_take]
 have e8:List.drop (l.length-1) (hs l)=hs (l.drop (l.length-1)):=by simp[hs]
 have e9:(hs (l.take k)).length=k:=by rw[zaa,List.length_take];omega
 have e10:(hs (l.drop (l.length-1))).length=1:=by rw[zaa,wG];omega
 have e11:hs (l.take k)++hs (l.drop (k+1))=hs (l.eraseIdx k):=by rw[List.eraseIdx_eq_take_drop_succ];simp[hs]
 have e12:(hs (l.eraseIdx k)).length=l.length-1:=by rw[zaa,wE,if_pos hk]
 have e14:(l.eraseIdx k).length=l.length-1:=by rw[wE,if_pos hk]
 have e13:l.length-(l.length-1)=1:=by omega
 rw[zbe (fd:=fd59) rfl]
 simp(disch:=apply zq;omega) only[go_sem,simprocAttr,↓Nat.reduceEqDiff,xx,fd59,m59,zaa,e1,e2,e3,Nat.sub_zero,false_and,decide_false,e5,e6,e7,e8,e9,e10,e11,e13,e14,wF]
 rw[List.take_append_of_le_length (by omega),<-e12,List.take_length,e12,List.drop_of_length_le (by simp only[wF,e12,e10];omega)]
 simp only[List.append_nil]
theorem zfd :∀(l:List Ob),zc0 (hs l)=true
 | []=>rfl
 | o::l=>by
   show(zcw (oV o)&&zc0 (hs l))=true
   rw[zfd l];rfl
theorem zv9 (l:List Ob)(jk:List AV):(hs l++jk).take l.length=hs l:=by rw[<-zaa,List.take_left]
theorem zly (h:1<=n){f:Bool}{l:List Ob}(hl:l.length<=8192):call gl tab n 40 [.lst f sO (hs l)] []=some (.sl 20000 [] 0 l.length,[],[.grow sO (hs l)]):=by
 obtain⟨d,rfl⟩:=wB h
 have hn:=zfd l
 rw[zf7 (fd:=fd40) rfl rfl]
 have h1:l.length<=LIM:=by unfold LIM;omega
 simp[zin,zaa,h1,Sh.beq,Sh.beqs]
abbrev XR (S:Sf)(A:List A3)(q:Fl)(tot:Int)(kh nh km:Nat):AV:=.aggR [.aggR [i64 S.c,.lst false sA (ac A),.sl kh [] 0 nh,skV S q],i64 tot,.mp km]
theorem z5j (h:7<=n){S:Sf}{fh fl:Bool}{mh:Sh}(hmh:Mk S.H mh sO)(hH:S.H.length<=8192)(hS:Srt S.H)(hv:VA S.A)(ht:Tn S.A){j k:Nat}(hj:j<S.H.length)(hk:k<S.A.length)(hkq:(aat S.A k).t=(oat S.H j).tn)(hq:I64 (oat S.H j).tn)(hsz:0<=(oat S.H j).sz/\(oat S.H j).sz<=(aat S.A k).u){tot:Int}(htot:0<=tot/\tot<=2^60){es:List (AV×AV×Nat)}{c:Nat} :
  call gl tab n 43 [.ptr 100000 [],oV (oat S.H j)] [(100000,.fix shX (XA S ⟨false,fh,fl,sA,mh⟩ tot)),(100001,.mp es c)] =
   some (.tup [],[(100000,.fix shX (XR S (updA S.A k (-(oat S.H j).sz)) ⟨false,fh,fl,sA,mh⟩ (tot-(oat S.H j).sz) 20000 (S.H.length-1) 100001)),(100001,.mp es c)],[.grow sO (hs (S.H.eraseIdx j)++[oV0])]):=by
 obtain⟨d,rfl⟩:=wB h
 have hne:=hmh.eq hj
 subst hne
 obtain⟨j',hp,c1⟩:=@zhs gl (d+6) (by omega) fh sO S.H (.inr rfl) hH hS (oat S.H j).nm
 have hjj:j=j':=by
  rcases wD j j' with h3|h3|h3
  . have:=hp.lo j h3;rw[Bl.irrefl]at this;cases this
  . exact h3
  . have:=hp.hi j' (wC _) (by omega);rw[hS j' j h3 hj]at this;cases this
 subst hjj
 have c2:=fun f=>@zly gl (d+6) (by omega) f S.H hH
 have c3:=@z6z gl (d+6) (by omega) S.H j hj hH
 have hu:=hv.ok k hk
 have he:uerr S.A k (-(oat S.H j).sz) true=0:=by rw[uerr,if_pos rfl,if_neg];have:=hu.u;omega
 have c4:=@zrk gl (d+6) (by omega) S.A hv ht (oat S.H j).tn (-(oat S.H j).sz) hq k hk hkq he
 have hu:=hu.u
 have hn:=zfd S.H
 have htk:=fun jk=>zv9 S.H jk
 generalize isAt S.H (oat S.H j).nm j=bj at *
 generalize oat S.H j=o at *
 rw[zbe (fd:=fd43) rfl]
 simp(disch:=apply zq;omega) only[go_sem,simprocAttr,↓Nat.reduceEqDiff,xx,fd43,m43,c1,c2,c3,c4,hn,zaa,Int.zero_sub,htk]
theorem z5i (h:7<=n){S:Sf}{fh fl:Bool}{mh:Sh}{jk:List AV}(hmh:Mk S.H mh sO)(hH:S.H.length<=8192)(hS:Srt S.H)(hv:VA S.A)(ht:Tn S.A){j k:Nat}(hj:j<S.H.length)(hk:k<S.A.length)(hkq:(aat S.A k).t=(oat S.H j).tn)(hq:I64 (oat S.H j).tn)(hsz:0<=(oat S.H j).sz/\(oat S.H j).sz<=(aat S.A k).u){tot:Int}(htot:0<=tot/\tot<=2^60){es:List (AV×AV×Nat)}{c:Nat} :
  call gl tab n 43 [.ptr 100000 [],oV (oat S.H j)] [(100000,.fix shX (XB S ⟨false,fh,fl,sA,mh⟩ tot)),(100001,.grow sO (hs S.H++jk)),(100002,.mp es c)] =
   some (.tup [],[(100000,.fix shX (XR S (updA S.A k (-(oat S.H j).sz)) ⟨false,fh,fl,sA,mh⟩ (tot-(oat S.H j).sz) 20000 (S.H.length-1) 100002)),(100001,.grow sO (hs S.H++jk)),(100002,.mp es c)],[.grow sO (hs (S.H.eraseIdx j)++[oV0])]):=by
 obtain⟨d,rfl⟩:=wB h
 have hne:=hmh.eq hj
 subst hne
 obtain⟨j',hp,c1⟩:=@zhs gl (d+6) (by omega) false sO S.H (.inr rfl) hH hS (oat S.H j).nm
 have hjj:j=j':=by
  rcases wD j j' with h3|h3|h3
  . have:=hp.lo j h3;rw[Bl.irrefl]at this;cases this
  . exact h3
  . have:=hp.hi j' (wC _) (by omega);rw[hS j' j h3 hj]at this;cases this
 subst hjj
 have c2:=fun f=>@zly gl (d+6) (by omega) f S.H hH
 have c3:=@z6z gl (d+6) (by omega) S.H j hj hH
 have hu:=hv.ok k hk
 have he:uerr S.A k (-(oat S.H j).sz) true=0:=by rw[uerr,if_pos rfl,if_neg];have:=hu.u;omega
 have c4:=@zrk gl (d+6) (by omega) S.A hv ht (oat S.H j).tn (-(oat S.H j).sz) hq k hk hkq he
 have hu:=hu.u
 have hn:=zfd S.H
 have htk:=fun jk=>zv9 S.H jk
 generalize isAt S.H (oat S.H j).nm j=bj at *
 generalize oat S.H j=o at *
 rw[zbe (fd:=fd43) rfl]
 simp(disch:=apply zq;omega) only[go_sem,simprocAttr,↓Nat.reduceEqDiff,xx,fd43,m43,c1,c2,c3,c4,hn,zaa,Int.zero_sub,htk]
end Go.Proofs.S17
