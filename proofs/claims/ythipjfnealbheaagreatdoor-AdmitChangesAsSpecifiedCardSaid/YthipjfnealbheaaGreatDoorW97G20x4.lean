/-
  Chapter 17: the object of a tenant that is worth least is taken. No condition.
-/
import Derived.Test.YthipjfnealbheaaGreatDoorW97G19x4
set_option linter.all false
open List renaming length_append->wB,getD_eq_getElem?_getD->wC,getElem?_eq_getElem->wD,length_singleton->wE,length_eraseIdx->wF,findIdx_eq->wG
open Nat renaming exists_eq_add_of_le'->wH
namespace Go.Proofs.S97
open Go Go.Ev Go.Proofs Go.Proofs.S97.Q
variable {gl :Gl} {n:Nat}
open Go.Mp (esN fN MOk)
def wl (l:List Ob)(t:Int):Nat->List Ob
 | 0=>[]
 | i+1=>if(oat l i).tn=t then wl l t i++[oat l i]else wl l t i
theorem wl_y {l:List Ob}{t:Int}{i:Nat}(h:(oat l i).tn=t):wl l t (i+1)=wl l t i++[oat l i]:=by rw[wl,if_pos h]
theorem wl_n {l:List Ob}{t:Int}{i:Nat}(h:¬(oat l i).tn=t):wl l t (i+1)=wl l t i:=by rw[wl,if_neg h]
theorem zza (l:List Ob)(t:Int):∀i,(wl l t i).length<=i
 | 0=>Nat.le_refl _
 | i+1=>by
   have:=zza l t i
   rw[wl];split
   . rw[wB];simp;exact this
   . omega
theorem zqa {l:List Ob}{t:Int}{x:Ob}:∀{i:Nat},x∈wl l t i↔∃j,j<i/\(oat l j).tn=t/\oat l j=x
 | 0=>by simp[wl]
 | i+1=>by
   rw[wl]
   split
   . rename_i h
     rw[List.mem_append,zqa,List.mem_singleton]
     constructor
     . rintro (⟨j,h1,h2,h3⟩|rfl)
       . exact⟨j,by omega,h2,h3⟩
       . exact⟨i,by omega,h,rfl⟩
     . rintro ⟨j,h1,h2,h3⟩
       by_cases e:j=i
       . subst e;exact .inr h3.symm
       . exact .inl ⟨j,by omega,h2,h3⟩
   . rename_i h
     rw[zqa]
     constructor
     . rintro ⟨j,h1,h2,h3⟩;exact⟨j,by omega,h2,h3⟩
     . rintro ⟨j,h1,h2,h3⟩
       by_cases e:j=i
       . subst e;exact absurd h2 h
       . exact⟨j,by omega,h2,h3⟩
theorem z9i {l:List Ob}{i:Nat}(h:i<l.length)(jk:List AV):(hs l++jk)[i]? =some (.agg [.str (oat l i).nm,i64 (oat l i).tn,i64 (oat l i).sz,i64 (oat l i).la]):=by
 rw[List.getElem?_append_left (by rw[zaa];exact h)];exact zdu h
theorem zvv {l:List Ob}(h:l.length<=8192):l.length+1<=LIM:=by unfold LIM;omega
def L51 :MC:=match m55 with| .seq _ (.seq _ (.seq (.seq _ (.block _ (.loop _ b))) _))=>b|_=>.skip
def S51A (S:Sf)(q:Fl)(tot:Int)(m:Mem)(t:Int)(i:Nat):St :=
 ⟨[.set 16 (i64 i),.set 15 (i64 S.H.length),.set 14 (.lst q.fh q.mh (hs S.H)),.set 6 (.sl 5006 [] 0 (wl S.H t i).length),.set 4 (.ptr 4 []),.set 1 (i64 t),.set 0 (.ptr 100000 [])],[(100001,.mp (esN m.1) m.2),(100000,.fix shX (XA S q tot)),(4,.fix sO oV0),(5006,.grow sO (hs (wl S.H t i)))]⟩
theorem zzm {d:Nat}{S:Sf}{q:Fl}(hq:FlOk S q){tot:Int}{m:Mem}{t:Int}(hH:S.H.length<=8192){i:Nat}(hi:i<S.H.length) :
  zba [.slot 0,.slot 1,.slot 4,.own 6 5006 (.st [.sc,.sc,.sc,.sc]),.slot 14,.slot 15,.slot 16,.key 4] (evC gl (call gl tab d) L51 (S51A S q tot m t i))=some (S51A S q tot m t (i+1)):=by
 have hx:=zdu hi
 have hmh:=hq.h.eq hi
 have hle:=zza S.H t i
 have hlim:=zvv (show(wl S.H t i).length<=8192 by omega)
 have hx2:=fun jk=>z9i hi jk
 have e1:((i+1:Nat):Int)=(i:Int)+1:=by omega
 by_cases h:(oat S.H i).tn=t
 . have e:((oat S.H i).tn==t)=true:=by simpa using h
   have e2:=zrr (wl S.H t i) (oat S.H i)
   have e3:=zme (wl S.H t i)
   unfold S51A
   rw[wl_y h,wB]
   generalize wl S.H t i=W at *
   generalize oat S.H i=o at *
   simp(disch:=apply zq;omega) only[go_sem,simprocAttr,↓Nat.reduceEqDiff,xx,L51,m55,zaa,hx,hmh,e,e1,e2,e3,hlim,wE,hx]
 . have e:((oat S.H i).tn==t)=false:=by simpa using h
   unfold S51A
   rw[wl_n h]
   generalize wl S.H t i=W at *
   generalize oat S.H i=o at *
   simp(disch:=apply zq;omega) only[go_sem,simprocAttr,↓Nat.reduceEqDiff,xx,L51,m55,zaa,hx,hmh,e,e1,hx]
def S51B (S:Sf)(q:Fl)(jk:List AV)(tot:Int)(m:Mem)(t:Int)(i:Nat):St :=
 ⟨[.set 16 (i64 i),.set 15 (i64 S.H.length),.set 14 (.sl 100001 [] 0 S.H.length),.set 6 (.sl 5006 [] 0 (wl S.H t i).length),.set 4 (.ptr 4 []),.set 1 (i64 t),.set 0 (.ptr 100000 [])],[(100002,.mp (esN m.1) m.2),(100001,.grow sO (hs S.H++jk)),(100000,.fix shX (XB S q tot)),(4,.fix sO oV0),(5006,.grow sO (hs (wl S.H t i)))]⟩
theorem zzl {d:Nat}{S:Sf}{q:Fl}{jk:List AV}(hq:FlOk S q){tot:Int}{m:Mem}{t:Int}(hH:S.H.length<=8192){i:Nat}(hi:i<S.H.length) :
  zba [.slot 0,.slot 1,.slot 4,.own 6 5006 (.st [.sc,.sc,.sc,.sc]),.slot 14,.slot 15,.slot 16,.key 4] (evC gl (call gl tab d) L51 (S51B S q jk tot m t i))=some (S51B S q jk tot m t (i+1)):=by
 have hx:=zdu hi
 have hmh:=hq.h.eq hi
 have hle:=zza S.H t i
 have hlim:=zvv (show(wl S.H t i).length<=8192 by omega)
 have hx2:=fun jk=>z9i hi jk
 have e1:((i+1:Nat):Int)=(i:Int)+1:=by omega
 by_cases h:(oat S.H i).tn=t
 . have e:((oat S.H i).tn==t)=true:=by simpa using h
   have e2:=zrr (wl S.H t i) (oat S.H i)
   have e3:=zme (wl S.H t i)
   unfold S51B
   rw[wl_y h,wB]
   generalize wl S.H t i=W at *
   generalize oat S.H i=o at *
   simp(disch:=apply zq;omega) only[go_sem,simprocAttr,↓Nat.reduceEqDiff,xx,L51,m55,zaa,hx,hmh,e,e1,e2,e3,hlim,wE,hx2]
 . have e:((oat S.H i).tn==t)=false:=by simpa using h
   unfold S51B
   rw[wl_n h]
   generalize wl S.H t i=W at *
   generalize oat S.H i=o at *
   simp(disch:=apply zq;omega) only[go_sem,simprocAttr,↓Nat.reduceEqDiff,xx,L51,m55,zaa,hx,hmh,e,e1,hx2]
theorem zuu (h:14<=n){S:Sf}{q:Fl}(hq:FlOk S q)(hH:S.H.length<=8192){t:Int}(hW:wl S.H t S.H.length=[]){tot:Int}{m:Mem} :
  call gl tab n 55 [.ptr 100000 [],i64 t] [(100000,.fix shX (XA S q tot)),(100001,.mp (esN m.1) m.2)] =
   some (.tup [oV0,.bool false],[(100000,.fix shX (XA S q tot)),(100001,.mp (esN m.1) m.2)],[]):=by
 obtain⟨d,rfl⟩:=wH h
 have hst:=fun i (hi:i<S.H.length)=>@zzm gl (d+13) S q hq tot m t hH i hi
 simp only[L51,m55]at hst
 rw[za5 (fd:=fd55) rfl]
 simp(disch:=apply zq;omega) only[go_sem,simprocAttr,↓Nat.reduceEqDiff,xx,fd55,m55,zaa]
 rw[zaj (S51A S q tot m t) S.H.length (by unfold LF;omega)]
 . unfold S51A
   rw[hW]
   simp(disch:=apply zq;omega) only[go_sem,simprocAttr,↓Nat.reduceEqDiff,xx,zez]
 . simp(disch:=apply zq;omega) only[go_sem,simprocAttr,↓Nat.reduceEqDiff,xx,S51A,wl,zez]
 . exact hst
 . simp(disch:=apply zq;omega) only[go_sem,simprocAttr,↓Nat.reduceEqDiff,xx,S51A]
theorem z4t [Nonempty (H.GlK gl)](h:14<=n){S:Sf}{fh fl:Bool}{mh:Sh}(hk:KOk S)(hmh:Mk S.H mh sO)(hv:VSf S)(ht:Tn S.A)(hnm:∀i,i<S.H.length->(oat S.H i).nm.length<=5000){t:Int}{tot:Int}(htot:0<=tot/\tot<=2^60){m:Mem}(hm:MOk (cnt S) m.1)
  {W:List Ob} (hW:wl S.H t S.H.length=W) (hN:1<=W.length) {j k:Nat} (hj:j<S.H.length) (hjW:oat W (mst S W m (W.length-1)).1=oat S.H j) (hkl:k<S.A.length) (hkt:(aat S.A k).t=(oat S.H j).tn) :
  call gl tab n 55 [.ptr 100000 [],i64 t] [(100000,.fix shX (XA S ⟨false,fh,fl,sA,mh⟩ tot)),(100001,.mp (esN m.1) m.2)] =
   some (.tup [oV (oat S.H j),.bool true],[(100000,.fix shX (XR S (updA S.A k (-(oat S.H j).sz)) ⟨false,fh,fl,sA,mh⟩ (tot-(oat S.H j).sz) 20000 (S.H.length-1) 100001)),(100001,.mp (esN (mst S W m (W.length-1)).2.1) (mst S W m (W.length-1)).2.2)],[.grow sO (hs (S.H.eraseIdx j)++[oV0])]):=by
 obtain⟨d,rfl⟩:=wH h
 have hH:=hv.hn
 have hR:RL S.H:=fun i hi=>(hv.ho i hi).r
 have hst:=fun i (hi:i<S.H.length)=>@zzm gl (d+13) S ⟨false,fh,fl,sA,mh⟩ ⟨.inr rfl,hmh⟩ tot m t (by omega) i hi
 simp only[L51,m55]at hst
 have hWl:W.length<=8192:=by rw[<-hW];have:=zza S.H t S.H.length;omega
 have hWn:∀i,i<W.length->(oat W i).nm.length<=5000:=fun i hi=>by
  have:=zte hi
  generalize oat W i=x at *
  rw[<-hW,zqa]at this
  obtain⟨j',h1,_,rfl⟩:=this
  exact hnm j' h1
 have c1:=@qce gl (d+13) _ (by omega) S ⟨false,fh,fl,sA,mh⟩ hk tot W hWn ⟨hN,hWl⟩ m hm
 rw[hjW]at c1
 have htn:I64 (oat S.H j).tn:=by rw[<-hkt];have:=ht k hkl;have:=zeq hv.va hkl;exact⟨by omega,by omega⟩
 have hsz:0<=(oat S.H j).sz/\(oat S.H j).sz<=(aat S.A k).u:=by
  rw[hv.hu k hkl,hkt];have:=(hR j hj).sz;exact⟨by omega,zun hR hj⟩
 have c2:=@zv4 gl (d+13) (by omega) S fh fl mh hmh (by omega) (zcl hv.ho) hv.va ht j k hj hkl hkt htn hsz tot htot (esN (mst S W m (W.length-1)).2.1) (mst S W m (W.length-1)).2.2
 generalize (mst S W m (W.length-1)).2=m2 at *
 generalize updA S.A k (-(oat S.H j).sz)=A2 at *
 generalize hs (S.H.eraseIdx j)=he at *
 generalize oat S.H j=o at *
 have hne:((W.length:Int)==0)=false:=by rw[beq_eq_false_iff_ne];omega
 rw[za5 (fd:=fd55) rfl]
 simp(disch:=apply zq;omega) only[go_sem,simprocAttr,↓Nat.reduceEqDiff,xx,fd55,m55,zaa]
 rw[zaj (S51A S ⟨false,fh,fl,sA,mh⟩ tot m t) S.H.length (by unfold LF;omega)]
 . unfold S51A
   rw[hW]
   simp(disch:=apply zq;omega) only[go_sem,simprocAttr,↓Nat.reduceEqDiff,xx,zez,hne,c1,c2]
 . simp(disch:=apply zq;omega) only[go_sem,simprocAttr,↓Nat.reduceEqDiff,xx,S51A,wl,zez]
 . exact hst
 . simp(disch:=apply zq;omega) only[go_sem,simprocAttr,↓Nat.reduceEqDiff,xx,S51A]
theorem zut (h:14<=n){S:Sf}{q:Fl}{jk:List AV}(hq:FlOk S q)(hH:S.H.length<=8192){t:Int}(hW:wl S.H t S.H.length=[]){tot:Int}{m:Mem} :
  call gl tab n 55 [.ptr 100000 [],i64 t] [(100000,.fix shX (XB S q tot)),(100001,.grow sO (hs S.H++jk)),(100002,.mp (esN m.1) m.2)] =
   some (.tup [oV0,.bool false],[(100000,.fix shX (XB S q tot)),(100001,.grow sO (hs S.H++jk)),(100002,.mp (esN m.1) m.2)],[]):=by
 obtain⟨d,rfl⟩:=wH h
 have hst:=fun i (hi:i<S.H.length)=>@zzl gl (d+13) S q jk hq tot m t hH i hi
 simp only[L51,m55]at hst
 rw[za5 (fd:=fd55) rfl]
 simp(disch:=apply zq;omega) only[go_sem,simprocAttr,↓Nat.reduceEqDiff,xx,fd55,m55,zaa]
 rw[zaj (S51B S q jk tot m t) S.H.length (by unfold LF;omega)]
 . unfold S51B
   rw[hW]
   simp(disch:=apply zq;omega) only[go_sem,simprocAttr,↓Nat.reduceEqDiff,xx,zez]
 . simp(disch:=apply zq;omega) only[go_sem,simprocAttr,↓Nat.reduceEqDiff,xx,S51B,wl,zez]
 . exact hst
 . simp(disch:=apply zq;omega) only[go_sem,simprocAttr,↓Nat.reduceEqDiff,xx,S51B]
theorem z4s [Nonempty (H.GlK gl)](h:14<=n){S:Sf}{fh fl:Bool}{mh:Sh}{jk:List AV}(hk:KOk S)(hmh:Mk S.H mh sO)(hv:VSf S)(ht:Tn S.A)(hnm:∀i,i<S.H.length->(oat S.H i).nm.length<=5000){t:Int}{tot:Int}(htot:0<=tot/\tot<=2^60){m:Mem}(hm:MOk (cnt S) m.1)
  {W:List Ob} (hW:wl S.H t S.H.length=W) (hN:1<=W.length) {j k:Nat} (hj:j<S.H.length) (hjW:oat W (mst S W m (W.length-1)).1=oat S.H j) (hkl:k<S.A.length) (hkt:(aat S.A k).t=(oat S.H j).tn) :
  call gl tab n 55 [.ptr 100000 [],i64 t] [(100000,.fix shX (XB S ⟨false,fh,fl,sA,mh⟩ tot)),(100001,.grow sO (hs S.H++jk)),(100002,.mp (esN m.1) m.2)] =
   some (.tup [oV (oat S.H j),.bool true],[(100000,.fix shX (XR S (updA S.A k (-(oat S.H j).sz)) ⟨false,fh,fl,sA,mh⟩ (tot-(oat S.H j).sz) 20000 (S.H.length-1) 100002)),(100001,.grow sO (hs S.H++jk)),(100002,.mp (esN (mst S W m (W.length-1)).2.1) (mst S W m (W.length-1)).2.2)],[.grow sO (hs (S.H.eraseIdx j)++[oV0])]):=by
 obtain⟨d,rfl⟩:=wH h
 have hH:=hv.hn
 have hR:RL S.H:=fun i hi=>(hv.ho i hi).r
 have hst:=fun i (hi:i<S.H.length)=>@zzl gl (d+13) S ⟨false,fh,fl,sA,mh⟩ jk ⟨.inr rfl,hmh⟩ tot m t (by omega) i hi
 simp only[L51,m55]at hst
 have hWl:W.length<=8192:=by rw[<-hW];have:=zza S.H t S.H.length;omega
 have hWn:∀i,i<W.length->(oat W i).nm.length<=5000:=fun i hi=>by
  have:=zte hi
  generalize oat W i=x at *
  rw[<-hW,zqa]at this
  obtain⟨j',h1,_,rfl⟩:=this
  exact hnm j' h1
 have c1:=@qcd gl (d+13) _ (by omega) S ⟨false,fh,fl,sA,mh⟩ jk hk tot W hWn ⟨hN,hWl⟩ m hm
 rw[hjW]at c1
 have htn:I64 (oat S.H j).tn:=by rw[<-hkt];have:=ht k hkl;have:=zeq hv.va hkl;exact⟨by omega,by omega⟩
 have hsz:0<=(oat S.H j).sz/\(oat S.H j).sz<=(aat S.A k).u:=by
  rw[hv.hu k hkl,hkt];have:=(hR j hj).sz;exact⟨by omega,zun hR hj⟩
 have c2:=@z70 gl (d+13) (by omega) S fh fl mh jk hmh (by omega) (zcl hv.ho) hv.va ht j k hj hkl hkt htn hsz tot htot (esN (mst S W m (W.length-1)).2.1) (mst S W m (W.length-1)).2.2
 generalize (mst S W m (W.length-1)).2=m2 at *
 generalize updA S.A k (-(oat S.H j).sz)=A2 at *
 generalize hs (S.H.eraseIdx j)=he at *
 generalize oat S.H j=o at *
 have hne:((W.length:Int)==0)=false:=by rw[beq_eq_false_iff_ne];omega
 rw[za5 (fd:=fd55) rfl]
 simp(disch:=apply zq;omega) only[go_sem,simprocAttr,↓Nat.reduceEqDiff,xx,fd55,m55,zaa]
 rw[zaj (S51B S ⟨false,fh,fl,sA,mh⟩ jk tot m t) S.H.length (by unfold LF;omega)]
 . unfold S51B
   rw[hW]
   simp(disch:=apply zq;omega) only[go_sem,simprocAttr,↓Nat.reduceEqDiff,xx,zez,hne,c1,c2]
 . simp(disch:=apply zq;omega) only[go_sem,simprocAttr,↓Nat.reduceEqDiff,xx,S51B,wl,zez]
 . exact hst
 . simp(disch:=apply zq;omega) only[go_sem,simprocAttr,↓Nat.reduceEqDiff,xx,S51B]
end Go.Proofs.S97
namespace Go.Proofs.S97
open Go Go.Ev Go.Proofs Go.Proofs.S97.Q
variable {gl :Gl} {n:Nat}
open Go.Mp (esN fN MOk)
def idxN (l:List Ob)(x:List UInt8):Nat:=l.findIdx fun o=>decide (o.nm=x)
def idxT (l:List A3)(t:Int):Nat:=l.findIdx fun a=>decide (a.t=t)
theorem z80 {l:List Ob}{j:Nat}(h:j<l.length):oat l j=l[j]:=by unfold oat;rw[wC,wD h];rfl
theorem z9w {l:List A3}{j:Nat}(h:j<l.length):aat l j=l[j]:=by unfold aat;rw[wC,wD h];rfl
theorem zts {l:List Ob}(hs:Srt l){j:Nat}(hj:j<l.length):idxN l (oat l j).nm=j:=by
 unfold idxN
 rw[wG hj]
 refine⟨by rw[<-z80 hj];simp,fun i hi=> ?_⟩
 rw[<-z80 (show i<l.length by omega)]
 exact decide_eq_false (Bl.ne (hs i j hi hj))
theorem qc4 {l:List A3}(hv:VA l){k:Nat}(hk:k<l.length):idxT l (aat l k).t=k:=by
 unfold idxT
 rw[wG hk]
 refine⟨by rw[<-z9w hk];simp,fun i hi=> ?_⟩
 rw[<-z9w (show i<l.length by omega)]
 exact decide_eq_false fun e=>by have:=zjg hv (show i<l.length by omega) hk e;omega
theorem zh7 {l:List A3}(hv:VA l){t:Int}(h:∃k,k<l.length/\(aat l k).t=t):idxT l t<l.length/\(aat l (idxT l t)).t=t:=by
 obtain⟨k,hk,rfl⟩:=h
 rw[qc4 hv hk];exact⟨hk,rfl⟩
open Classical in
noncomputable def lvl (l:List S2)(c:Int):Int:=if h:∃m,Lv l c m then Classical.choose h else 0
theorem z84 {l:List S2}(hv:VS l){c:Int}(hc:0<=c/\c<=1099511627776):Lv l c (lvl l c):=by
 have h:=z1f hv hc
 unfold lvl
 rw[dif_pos h]
 exact Classical.choose_spec h
noncomputable def fgs (S:Sf)(h:Ob):List Int:=gets (wnt S.A (idxT S.A h.tn) h.sz) (lvl (wnt S.A (idxT S.A h.tn) h.sz) S.c) S.c S.A.length
def own (S:Sf)(h:Ob):Prop:=nat (fgs S h) (idxT S.A h.tn)<(aat S.A (idxT S.A h.tn)).u+h.sz
open Classical in
noncomputable def vtn (S:Sf)(h:Ob):Int:=if own S h then h.tn else(bst S.A (fgs S h) (idxT S.A h.tn) S.A.length).1
theorem zk6 (hn:12<=n){S:Sf}(hv:VSf S)(ht:Tn S.A){h:Ob}(hr:ROk h)(ha:∃k,k<S.A.length/\(aat S.A k).t=h.tn)(hf:S.c<sumU S.A S.A.length+h.sz) :
  call gl tab n 54 [i64 S.c,.lst false sA (ac S.A),i64 h.tn,i64 h.sz] []=some (if nat (fgs S h) (idxT S.A h.tn)<(aat S.A (idxT S.A h.tn)).u+h.sz then .tup [i64 0,i64 160]else .tup [i64 (bst S.A (fgs S h) (idxT S.A h.tn) S.A.length).1,i64 0],[],[]):=by
 obtain⟨hk,hkt⟩:=zh7 hv.va ha
 have hq:I64 h.tn:=by rw[<-hkt];have:=ht _ hk;have:=zeq hv.va hk;exact⟨by omega,by omega⟩
 have hsz:0<=h.sz/\h.sz<=1099511627776:=by have:=hr.sz;omega
 obtain⟨k',b,h1,h2,h3,c⟩:=@place_at gl (n-1) (by omega) S.A hv.va ht h.tn hq
 cases b with
 | false=>exact absurd hkt (h3 rfl _ hk)
 | true =>
   obtain⟨h4,h5⟩:=h2 rfl
   have e:=zjg hv.va hk h4 (hkt.trans h5.symm)
   rw[<-e]at c
   exact zws hn hv.va hv.c hsz hk (z84 (zih hv.va hsz) hv.c) hf c
structure Vt where
 S:Sf
 m:Mem
 o:List Ob
 w:Bool
 b:Bool
noncomputable def wls (v:Vt)(h:Ob):List Ob:=wl v.S.H (vtn v.S h) v.S.H.length
noncomputable def mls (v:Vt)(h:Ob):Nat×Mem:=mst v.S (wls v h) v.m ((wls v h).length-1)
noncomputable def jls (v:Vt)(h:Ob):Nat:=idxN v.S.H (oat (wls v h) (mls v h).1).nm
noncomputable def xls (v:Vt)(h:Ob):Ob:=oat v.S.H (jls v h)
noncomputable def kls (v:Vt)(h:Ob):Nat:=idxT v.S.A (xls v h).tn
noncomputable def nxt (h:Ob)(v:Vt):Vt :=
 ⟨drp v.S (jls v h) (kls v h),if v.w=true/\(xls v h).tn=h.tn then ask2 v.S (xls v h) h (mls v h).2 else(mls v h).2,v.o++[xls v h],
   v.w&&(!decide ((xls v h).tn=h.tn)||decide (cnt v.S (xls v h).nm<cnt v.S h.nm)),true⟩
abbrev tot (S:Sf):Int:=sumU S.A S.A.length
open Classical in
noncomputable def goV (h:Ob)(v:Vt):Bool:=decide (v.S.c<tot v.S+h.sz)&&decide (wls v h≠[])
structure IV (h:Ob)(v:Vt):Prop where
 hv:VSf v.S
 ht:Tn v.S.A
 hk:KOk v.S
 hm:MOk (cnt v.S) v.m.1
 nm:∀i,i<v.S.H.length->(oat v.S.H i).nm.length<=5000
 ol:v.o.length+v.S.H.length<=8192
 ha:∃k,k<v.S.A.length/\(aat v.S.A k).t=h.tn
theorem zlv {h:Ob}{v:Vt}(hi:IV h v)(hw:wls v h≠[]):jls v h<v.S.H.length/\oat (wls v h) (mls v h).1=xls v h/\kls v h<v.S.A.length/\(aat v.S.A (kls v h)).t=(xls v h).tn/\(xls v h).tn=vtn v.S h:=by
 have hl:0<(wls v h).length:=List.length_pos_iff.2 hw
 have hle:=zu9 v.S (wls v h) v.m ((wls v h).length-1)
 have hin:=zte (show(mls v h).1<(wls v h).length by unfold mls;omega)
 have hin2:=hin
 rw[wls,zqa]at hin
 obtain⟨j,h1,h2,h3⟩:=hin
 have e:jls v h=j:=by
  rw[jls,show wls v h=wl v.S.H (vtn v.S h) v.S.H.length from rfl,<-h3,zts (zcl hi.hv.ho) h1]
 have ex:xls v h=oat v.S.H j:=by rw[xls,e]
 obtain⟨g1,g2⟩:=zh7 hi.hv.va (hi.hv.ho j h1).t
 rw[<-ex]at g1 g2
 refine⟨by rw[e];exact h1,?_,g1,g2,by rw[ex];exact h2⟩
 rw[ex];exact h3.symm
theorem zto {h:Ob}{v:Vt}(hi:IV h v)(hw:wls v h≠[]):IV h (nxt h v):=by
 obtain⟨h1,h2,h3,h4,_⟩:=zlv hi hw
 have hlen:(v.S.H.eraseIdx (jls v h)).length=v.S.H.length-1:=by rw[wF,if_pos h1]
 refine⟨zr2 hi.hv h1 h3 h4,qh6 hi.ht h3,⟨hi.hk.w,hi.hk.l⟩,?_,?_,?_,?_⟩
 . show MOk (cnt v.S) (if v.w=true/\(xls v h).tn=h.tn then ask2 v.S (xls v h) h (mls v h).2 else(mls v h).2).1
   split
   . exact z4d (zi1 hi.hm _)
   . exact zi1 hi.hm _
 . intro i hi'
   have hi2:i<(v.S.H.eraseIdx (jls v h)).length:=hi'
   show(oat (v.S.H.eraseIdx (jls v h)) i).nm.length<=5000
   rw[zfo h1]
   split
   . exact hi.nm i (by omega)
   . exact hi.nm (i+1) (by omega)
 . show(v.o++[xls v h]).length+(v.S.H.eraseIdx (jls v h)).length<=8192
   rw[wB,hlen]
   have:=hi.ol
   simp;omega
 . obtain⟨k,hk,e⟩:=hi.ha
   exact⟨k,by show k<(updA _ _ _).length;rw[za3];exact hk,by show(aat (updA _ _ _) k).t=_;rw[zk8 h3];exact e⟩
theorem zus {h:Ob}{v:Vt}(hi:IV h v)(hw:wls v h≠[]):tot (nxt h v).S=tot v.S-(xls v h).sz:=by
 obtain⟨h1,h2,h3,h4,_⟩:=zlv hi hw
 show sumU (updA v.S.A (kls v h) (-(xls v h).sz)) (updA v.S.A (kls v h) (-(xls v h).sz)).length=sumU v.S.A v.S.A.length-(xls v h).sz
 rw[za3,zku h3,if_pos h3];omega
theorem zpg {h:Ob}{v:Vt}(hi:IV h v)(hw:wls v h≠[]):(nxt h v).S.H.length+1=v.S.H.length:=by
 obtain⟨h1,_⟩:=zlv hi hw
 show(v.S.H.eraseIdx (jls v h)).length+1=_
 rw[wF,if_pos h1];omega
end Go.Proofs.S97
