/-
  Chapter 17: the object of a tenant that is worth least is taken. No condition.
-/
import Derived.Test.YthipjfnealbheaaDoorW17G22x5
set_option linter.all false
open List renaming length_append->wB,length_singleton->wC
open Nat renaming exists_eq_add_of_le'->wD
namespace Go.Proofs.S17
open Go Go.Ev Go.Proofs Go.Proofs.S17.Q
variable {gl :Gl} {n:Nat}
open Go.Mp (esN MOk)
def wl (l:List Ob)(t:Int):Nat->List Ob
 | 0=>[]
 | i+1=>if(oat l i).tn=t then wl l t i++[oat l i]else wl l t i
theorem wl_y {l:List Ob}{t:Int}{i:Nat}(h:(oat l i).tn=t):wl l t (i+1)=wl l t i++[oat l i]:=by rw[wl,if_pos h]
theorem wl_n {l:List Ob}{t:Int}{i:Nat}(h:¬(oat l i).tn=t):wl l t (i+1)=wl l t i:=by rw[wl,if_neg h]
theorem zxq (l:List Ob)(t:Int):∀i,(wl l t i).length<=i
 | 0=>Nat.le_refl _
 | i+1=>by
   have:=zxq l t i
   rw[wl];split
   . rw[wB];simp;exact this
   . omega
theorem zpg {l:List Ob}{t:Int}{x:Ob}:∀{i:Nat},x∈wl l t i↔∃j,j<i/\(oat l j).tn=t/\oat l j=x
 | 0=>by simp[wl]
 | i+1=>by
   rw[wl]
   split
   . rename_i h
     rw[List.mem_append,zpg,List.mem_singleton]
     constructor
     . rintro (⟨j,h1,h2,h3⟩|rfl)
       . exact⟨j,by omega,h2,h3⟩
       . exact⟨i,by omega,h,rfl⟩
     . rintro ⟨j,h1,h2,h3⟩
       by_cases e:j=i
       . subst e;exact .inr h3.symm
       . exact .inl ⟨j,by omega,h2,h3⟩
   . rename_i h
     rw[zpg]
     constructor
     . rintro ⟨j,h1,h2,h3⟩;exact⟨j,by omega,h2,h3⟩
     . rintro ⟨j,h1,h2,h3⟩
       by_cases e:j=i
       . subst e;exact absurd h2 h
       . exact⟨j,by omega,h2,h3⟩
theorem z62 {l:List Ob}{i:Nat}(h:i<l.length)(jk:List AV):(hs l++jk)[i]? =some (.agg [.str (oat l i).nm,i64 (oat l i).tn,i64 (oat l i).sz,i64 (oat l i).la]):=by
 rw[List.getElem?_append_left (by rw[zaa];exact h)];exact zeq h
theorem zui {l:List Ob}(h:l.length<=8192):l.length+1<=LIM:=by unfold LIM;omega
def L51 :MC:=match m51 with| .seq _ (.seq _ (.seq (.seq _ (.block _ (.loop _ b))) _))=>b|_=>.skip
def S51A (S:Sf)(q:Fl)(tot:Int)(m:Mem)(t:Int)(i:Nat):St :=
 ⟨[.set 16 (i64 i),.set 15 (i64 S.H.length),.set 14 (.lst q.fh q.mh (hs S.H)),.set 6 (.sl 5006 [] 0 (wl S.H t i).length),.set 4 (.ptr 4 []),.set 1 (i64 t),.set 0 (.ptr 100000 [])],[(100001,.mp (esN m.1) m.2),(100000,.fix shX (XA S q tot)),(4,.fix sO oV0),(5006,.grow sO (hs (wl S.H t i)))]⟩
theorem zx0 {d:Nat}{S:Sf}{q:Fl}(hq:FlOk S q){tot:Int}{m:Mem}{t:Int}(hH:S.H.length<=8192){i:Nat}(hi:i<S.H.length) :
  zbp [.slot 0,.slot 1,.slot 4,.own 6 5006 (.st [.sc,.sc,.sc,.sc]),.slot 14,.slot 15,.slot 16,.key 4] (evC gl (call gl tab d) L51 (S51A S q tot m t i))=some (S51A S q tot m t (i+1)):=by
 have hx:=zeq hi
 have hmh:=hq.h.eq hi
 have hle:=zxq S.H t i
 have hlim:=zui (show(wl S.H t i).length<=8192 by omega)
 have hx2:=fun jk=>z62 hi jk
 have e1:((i+1:Nat):Int)=(i:Int)+1:=by omega
 by_cases h:(oat S.H i).tn=t
 . have e:((oat S.H i).tn==t)=true:=by simpa using h
   have e2:=zuj (wl S.H t i) (oat S.H i)
   have e3:=zor (wl S.H t i)
   unfold S51A
   rw[wl_y h,wB]
   generalize wl S.H t i=W at *
   generalize oat S.H i=o at *
   simp(disch:=apply zq;omega) only[go_sem,simprocAttr,↓Nat.reduceEqDiff,xx,L51,m51,zaa,hx,hmh,e,e1,e2,e3,hlim,wC,hx]
 . have e:((oat S.H i).tn==t)=false:=by simpa using h
   unfold S51A
   rw[wl_n h]
   generalize wl S.H t i=W at *
   generalize oat S.H i=o at *
   simp(disch:=apply zq;omega) only[go_sem,simprocAttr,↓Nat.reduceEqDiff,xx,L51,m51,zaa,hx,hmh,e,e1,hx]
def S51B (S:Sf)(q:Fl)(jk:List AV)(tot:Int)(m:Mem)(t:Int)(i:Nat):St :=
 ⟨[.set 16 (i64 i),.set 15 (i64 S.H.length),.set 14 (.sl 100001 [] 0 S.H.length),.set 6 (.sl 5006 [] 0 (wl S.H t i).length),.set 4 (.ptr 4 []),.set 1 (i64 t),.set 0 (.ptr 100000 [])],[(100002,.mp (esN m.1) m.2),(100001,.grow sO (hs S.H++jk)),(100000,.fix shX (XB S q tot)),(4,.fix sO oV0),(5006,.grow sO (hs (wl S.H t i)))]⟩
theorem zxz {d:Nat}{S:Sf}{q:Fl}{jk:List AV}(hq:FlOk S q){tot:Int}{m:Mem}{t:Int}(hH:S.H.length<=8192){i:Nat}(hi:i<S.H.length) :
  zbp [.slot 0,.slot 1,.slot 4,.own 6 5006 (.st [.sc,.sc,.sc,.sc]),.slot 14,.slot 15,.slot 16,.key 4] (evC gl (call gl tab d) L51 (S51B S q jk tot m t i))=some (S51B S q jk tot m t (i+1)):=by
 have hx:=zeq hi
 have hmh:=hq.h.eq hi
 have hle:=zxq S.H t i
 have hlim:=zui (show(wl S.H t i).length<=8192 by omega)
 have hx2:=fun jk=>z62 hi jk
 have e1:((i+1:Nat):Int)=(i:Int)+1:=by omega
 by_cases h:(oat S.H i).tn=t
 . have e:((oat S.H i).tn==t)=true:=by simpa using h
   have e2:=zuj (wl S.H t i) (oat S.H i)
   have e3:=zor (wl S.H t i)
   unfold S51B
   rw[wl_y h,wB]
   generalize wl S.H t i=W at *
   generalize oat S.H i=o at *
   simp(disch:=apply zq;omega) only[go_sem,simprocAttr,↓Nat.reduceEqDiff,xx,L51,m51,zaa,hx,hmh,e,e1,e2,e3,hlim,wC,hx2]
 . have e:((oat S.H i).tn==t)=false:=by simpa using h
   unfold S51B
   rw[wl_n h]
   generalize wl S.H t i=W at *
   generalize oat S.H i=o at *
   simp(disch:=apply zq;omega) only[go_sem,simprocAttr,↓Nat.reduceEqDiff,xx,L51,m51,zaa,hx,hmh,e,e1,hx2]
theorem ztq (h:14<=n){S:Sf}{q:Fl}(hq:FlOk S q)(hH:S.H.length<=8192){t:Int}(hW:wl S.H t S.H.length=[]){tot:Int}{m:Mem} :
  call gl tab n 51 [.ptr 100000 [],i64 t] [(100000,.fix shX (XA S q tot)),(100001,.mp (esN m.1) m.2)] =
   some (.tup [oV0,.bool false],[(100000,.fix shX (XA S q tot)),(100001,.mp (esN m.1) m.2)],[]):=by
 obtain⟨d,rfl⟩:=wD h
 have hst:=fun i (hi:i<S.H.length)=>@zx0 gl (d+13) S q hq tot m t hH i hi
 simp only[L51,m51]at hst
 rw[zbe (fd:=fd51) rfl]
 simp(disch:=apply zq;omega) only[go_sem,simprocAttr,↓Nat.reduceEqDiff,xx,fd51,m51,zaa]
 rw[zao (S51A S q tot m t) S.H.length (by unfold LF;omega)]
 . unfold S51A
   rw[hW]
   simp(disch:=apply zq;omega) only[go_sem,simprocAttr,↓Nat.reduceEqDiff,xx,zev]
 . simp(disch:=apply zq;omega) only[go_sem,simprocAttr,↓Nat.reduceEqDiff,xx,S51A,wl,zev]
 . exact hst
 . simp(disch:=apply zq;omega) only[go_sem,simprocAttr,↓Nat.reduceEqDiff,xx,S51A]
theorem z2z [Nonempty (H.GlK gl)](h:14<=n){S:Sf}{fh fl:Bool}{mh:Sh}(hk:KOk S)(hmh:Mk S.H mh sO)(hv:VSf S)(ht:Tn S.A)(hnm:∀i,i<S.H.length->(oat S.H i).nm.length<=5000){t:Int}{tot:Int}(htot:0<=tot/\tot<=2^60){m:Mem}(hm:MOk (cnt S) m.1)
  {W:List Ob} (hW:wl S.H t S.H.length=W) (hN:1<=W.length) {j k:Nat} (hj:j<S.H.length) (hjW:oat W (mst S W m (W.length-1)).1=oat S.H j) (hkl:k<S.A.length) (hkt:(aat S.A k).t=(oat S.H j).tn) :
  call gl tab n 51 [.ptr 100000 [],i64 t] [(100000,.fix shX (XA S ⟨false,fh,fl,sA,mh⟩ tot)),(100001,.mp (esN m.1) m.2)] =
   some (.tup [oV (oat S.H j),.bool true],[(100000,.fix shX (XR S (updA S.A k (-(oat S.H j).sz)) ⟨false,fh,fl,sA,mh⟩ (tot-(oat S.H j).sz) 20000 (S.H.length-1) 100001)),(100001,.mp (esN (mst S W m (W.length-1)).2.1) (mst S W m (W.length-1)).2.2)],[.grow sO (hs (S.H.eraseIdx j)++[oV0])]):=by
 obtain⟨d,rfl⟩:=wD h
 have hH:=hv.hn
 have hR:RL S.H:=fun i hi=>(hv.ho i hi).r
 have hst:=fun i (hi:i<S.H.length)=>@zx0 gl (d+13) S ⟨false,fh,fl,sA,mh⟩ ⟨.inr rfl,hmh⟩ tot m t (by omega) i hi
 simp only[L51,m51]at hst
 have hWl:W.length<=8192:=by rw[<-hW];have:=zxq S.H t S.H.length;omega
 have hWn:∀i,i<W.length->(oat W i).nm.length<=5000:=fun i hi=>by
  have:=zsc hi
  generalize oat W i=x at *
  rw[<-hW,zpg]at this
  obtain⟨j',h1,_,rfl⟩:=this
  exact hnm j' h1
 have c1:=@z9p gl (d+13) _ (by omega) S ⟨false,fh,fl,sA,mh⟩ hk tot W hWn ⟨hN,hWl⟩ m hm
 rw[hjW]at c1
 have htn:I64 (oat S.H j).tn:=by rw[<-hkt];have:=ht k hkl;have:=zed hv.va hkl;exact⟨by omega,by omega⟩
 have hsz:0<=(oat S.H j).sz/\(oat S.H j).sz<=(aat S.A k).u:=by
  rw[hv.hu k hkl,hkt];have:=(hR j hj).sz;exact⟨by omega,ztj hR hj⟩
 have c2:=@zut gl (d+13) (by omega) S fh fl mh hmh (by omega) (zc4 hv.ho) hv.va ht j k hj hkl hkt htn hsz tot htot (esN (mst S W m (W.length-1)).2.1) (mst S W m (W.length-1)).2.2
 generalize (mst S W m (W.length-1)).2=m2 at *
 generalize updA S.A k (-(oat S.H j).sz)=A2 at *
 generalize hs (S.H.eraseIdx j)=he at *
 generalize oat S.H j=o at *
 have hne:((W.length:Int)==0)=false:=by rw[beq_eq_false_iff_ne];omega
 rw[zbe (fd:=fd51) rfl]
 simp(disch:=apply zq;omega) only[go_sem,simprocAttr,↓Nat.reduceEqDiff,xx,fd51,m51,zaa]
 rw[zao (S51A S ⟨false,fh,fl,sA,mh⟩ tot m t) S.H.length (by unfold LF;omega)]
 . unfold S51A
   rw[hW]
   simp(disch:=apply zq;omega) only[go_sem,simprocAttr,↓Nat.reduceEqDiff,xx,zev,hne,c1,c2]
 . simp(disch:=apply zq;omega) only[go_sem,simprocAttr,↓Nat.reduceEqDiff,xx,S51A,wl,zev]
 . exact hst
 . simp(disch:=apply zq;omega) only[go_sem,simprocAttr,↓Nat.reduceEqDiff,xx,S51A]
theorem ztp (h:14<=n){S:Sf}{q:Fl}{jk:List AV}(hq:FlOk S q)(hH:S.H.length<=8192){t:Int}(hW:wl S.H t S.H.length=[]){tot:Int}{m:Mem} :
  call gl tab n 51 [.ptr 100000 [],i64 t] [(100000,.fix shX (XB S q tot)),(100001,.grow sO (hs S.H++jk)),(100002,.mp (esN m.1) m.2)] =
   some (.tup [oV0,.bool false],[(100000,.fix shX (XB S q tot)),(100001,.grow sO (hs S.H++jk)),(100002,.mp (esN m.1) m.2)],[]):=by
 obtain⟨d,rfl⟩:=wD h
 have hst:=fun i (hi:i<S.H.length)=>@zxz gl (d+13) S q jk hq tot m t hH i hi
 simp only[L51,m51]at hst
 rw[zbe (fd:=fd51) rfl]
 simp(disch:=apply zq;omega) only[go_sem,simprocAttr,↓Nat.reduceEqDiff,xx,fd51,m51,zaa]
 rw[zao (S51B S q jk tot m t) S.H.length (by unfold LF;omega)]
 . unfold S51B
   rw[hW]
   simp(disch:=apply zq;omega) only[go_sem,simprocAttr,↓Nat.reduceEqDiff,xx,zev]
 . simp(disch:=apply zq;omega) only[go_sem,simprocAttr,↓Nat.reduceEqDiff,xx,S51B,wl,zev]
 . exact hst
 . simp(disch:=apply zq;omega) only[go_sem,simprocAttr,↓Nat.reduceEqDiff,xx,S51B]
theorem z2y [Nonempty (H.GlK gl)](h:14<=n){S:Sf}{fh fl:Bool}{mh:Sh}{jk:List AV}(hk:KOk S)(hmh:Mk S.H mh sO)(hv:VSf S)(ht:Tn S.A)(hnm:∀i,i<S.H.length->(oat S.H i).nm.length<=5000){t:Int}{tot:Int}(htot:0<=tot/\tot<=2^60){m:Mem}(hm:MOk (cnt S) m.1)
  {W:List Ob} (hW:wl S.H t S.H.length=W) (hN:1<=W.length) {j k:Nat} (hj:j<S.H.length) (hjW:oat W (mst S W m (W.length-1)).1=oat S.H j) (hkl:k<S.A.length) (hkt:(aat S.A k).t=(oat S.H j).tn) :
  call gl tab n 51 [.ptr 100000 [],i64 t] [(100000,.fix shX (XB S ⟨false,fh,fl,sA,mh⟩ tot)),(100001,.grow sO (hs S.H++jk)),(100002,.mp (esN m.1) m.2)] =
   some (.tup [oV (oat S.H j),.bool true],[(100000,.fix shX (XR S (updA S.A k (-(oat S.H j).sz)) ⟨false,fh,fl,sA,mh⟩ (tot-(oat S.H j).sz) 20000 (S.H.length-1) 100002)),(100001,.grow sO (hs S.H++jk)),(100002,.mp (esN (mst S W m (W.length-1)).2.1) (mst S W m (W.length-1)).2.2)],[.grow sO (hs (S.H.eraseIdx j)++[oV0])]):=by
 obtain⟨d,rfl⟩:=wD h
 have hH:=hv.hn
 have hR:RL S.H:=fun i hi=>(hv.ho i hi).r
 have hst:=fun i (hi:i<S.H.length)=>@zxz gl (d+13) S ⟨false,fh,fl,sA,mh⟩ jk ⟨.inr rfl,hmh⟩ tot m t (by omega) i hi
 simp only[L51,m51]at hst
 have hWl:W.length<=8192:=by rw[<-hW];have:=zxq S.H t S.H.length;omega
 have hWn:∀i,i<W.length->(oat W i).nm.length<=5000:=fun i hi=>by
  have:=zsc hi
  generalize oat W i=x at *
  rw[<-hW,zpg]at this
  obtain⟨j',h1,_,rfl⟩:=this
  exact hnm j' h1
 have c1:=@z9o gl (d+13) _ (by omega) S ⟨false,fh,fl,sA,mh⟩ jk hk tot W hWn ⟨hN,hWl⟩ m hm
 rw[hjW]at c1
 have htn:I64 (oat S.H j).tn:=by rw[<-hkt];have:=ht k hkl;have:=zed hv.va hkl;exact⟨by omega,by omega⟩
 have hsz:0<=(oat S.H j).sz/\(oat S.H j).sz<=(aat S.A k).u:=by
  rw[hv.hu k hkl,hkt];have:=(hR j hj).sz;exact⟨by omega,ztj hR hj⟩
 have c2:=@z5r gl (d+13) (by omega) S fh fl mh jk hmh (by omega) (zc4 hv.ho) hv.va ht j k hj hkl hkt htn hsz tot htot (esN (mst S W m (W.length-1)).2.1) (mst S W m (W.length-1)).2.2
 generalize (mst S W m (W.length-1)).2=m2 at *
 generalize updA S.A k (-(oat S.H j).sz)=A2 at *
 generalize hs (S.H.eraseIdx j)=he at *
 generalize oat S.H j=o at *
 have hne:((W.length:Int)==0)=false:=by rw[beq_eq_false_iff_ne];omega
 rw[zbe (fd:=fd51) rfl]
 simp(disch:=apply zq;omega) only[go_sem,simprocAttr,↓Nat.reduceEqDiff,xx,fd51,m51,zaa]
 rw[zao (S51B S ⟨false,fh,fl,sA,mh⟩ jk tot m t) S.H.length (by unfold LF;omega)]
 . unfold S51B
   rw[hW]
   simp(disch:=apply zq;omega) only[go_sem,simprocAttr,↓Nat.reduceEqDiff,xx,zev,hne,c1,c2]
 . simp(disch:=apply zq;omega) only[go_sem,simprocAttr,↓Nat.reduceEqDiff,xx,S51B,wl,zev]
 . exact hst
 . simp(disch:=apply zq;omega) only[go_sem,simprocAttr,↓Nat.reduceEqDiff,xx,S51B]
end Go.Proofs.S17
