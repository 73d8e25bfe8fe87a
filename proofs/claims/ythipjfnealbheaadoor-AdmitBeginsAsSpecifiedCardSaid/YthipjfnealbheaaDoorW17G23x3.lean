/-
  Chapter 17: a shelf without an object (plain law). No condition.
-/
import Derived.Test.YthipjfnealbheaaDoorW17G21x3
import Derived.Test.YthipjfnealbheaaDoorW17G22x3
set_option linter.all false
open List renaming length_eraseIdx->wB,getD_eq_getElem?_getD->wC,length_append->wD,getElem?_eq_getElem->wE,length_singleton->wF
open Nat renaming exists_eq_add_of_le'->wG
namespace Go.Proofs.S17
open Go Go.Ev Go.Proofs Go.Proofs.S17.Q
theorem zmk (x:Ob)(l:List Ob)(i:Nat):oat (x::l) (i+1)=oat l i:=by simp[oat]
theorem zvx (x:Ob)(l:List Ob):oat (x::l) 0=x:=rfl
theorem zgo {l:List Ob}{j:Nat}(hj:j<l.length)(i:Nat):oat (l.eraseIdx j) i=if i<j then oat l i else oat l (i+1):=by
 unfold oat
 simp only[wC,List.getElem?_eraseIdx]
 split<;>rfl
theorem ze4 {S:Sf}(h:∀i,i<S.H.length->HOk S i):Srt S.H:=by
 intro i j
 induction j with
 | zero=>intro h1;omega
 | succ j ih =>
   intro h1 h2
   have h3:=(h (j+1) h2).o (by omega)
   rw[show j+1-1=j by omega]at h3
   by_cases e:i=j
   . rw[e];exact h3
   . exact Bl.trans (ih (by omega) (by omega)) h3
theorem zx1 {l:List Ob}(h:Srt l){j:Nat}(hj:j<l.length):Srt (l.eraseIdx j):=by
 intro a b hab hb
 rw[wB,if_pos hj]at hb
 rw[zgo hj,zgo hj]
 split<;>split
 . exact h a b hab (by omega)
 . exact h a (b+1) (by omega) (by omega)
 . omega
 . exact h (a+1) (b+1) (by omega) (by omega)
def usL (t:Int):List Ob->Int
 | []=>0
 | x::l=>(if x.tn=t then x.sz else 0)+usL t l
theorem zth (x:Ob)(l:List Ob)(t:Int):∀i,usd (x::l) t (i+1)=(if x.tn=t then x.sz else 0)+usd l t i
 | 0=>by simp[usd,oat]
 | i+1=>by
   rw[usd,zth x l t i,zmk,usd];omega
theorem zir (t:Int):∀l:List Ob,usd l t l.length=usL t l
 | []=>rfl
 | x::l=>by rw[List.length_cons,zth,zir t l,usL]
theorem zpl (t:Int):∀{l:List Ob} {j:Nat},j<l.length->usL t (l.eraseIdx j)=usL t l-if(oat l j).tn=t then(oat l j).sz else 0
 | [],_,h=>by simp at h
 | x::l,0,_=>by rw[List.eraseIdx_cons_zero,usL,zvx];omega
 | x::l,j+1,h=>by
   rw[List.eraseIdx_cons_succ,usL,usL,zpl t (by simpa using h),zmk];omega
theorem zpk {l:List Ob}{j:Nat}(hj:j<l.length)(t:Int):usd (l.eraseIdx j) t (l.length-1)=usd l t l.length-if(oat l j).tn=t then(oat l j).sz else 0:=by
 have e:(l.eraseIdx j).length=l.length-1:=by rw[wB,if_pos hj]
 rw[<-e,zir,zir,zpl t hj]
theorem z59 {t:Int}:∀{l:List Ob},(∀x∈l,1<=x.sz)->0<=usL t l
 | [],_=>Int.le_refl _
 | x::l,h=>by
   have:=z59 (t:=t) (l:=l) fun y hy=>h y (by simp[hy])
   have:=h x (by simp)
   rw[usL];split<;>omega
theorem zsa {l:List Ob}{i:Nat}(h:i<l.length):oat l i∈l:=by
 unfold oat
 rw[wC,wE h];exact List.getElem_mem h
theorem z9l {l:List Ob}{x:Ob}(h:x∈l):∃i,i<l.length/\oat l i=x:=by
 obtain⟨i,hi,e⟩:=List.getElem_of_mem h
 exact⟨i,hi,by unfold oat;rw[wC,wE hi];exact e⟩
theorem zxp {l:List Ob}(hr:RL l){j:Nat}(hj:j<l.length):(oat l j).sz<=usd l (oat l j).tn l.length:=by
 have h1:=zpk hj (oat l j).tn
 rw[if_pos rfl]at h1
 have e:(l.eraseIdx j).length=l.length-1:=by rw[wB,if_pos hj]
 rw[<-e,zir]at h1
 have h2:=z59 (t:=(oat l j).tn) (l:=l.eraseIdx j) fun x hx=>by
  obtain⟨i,hi,rfl⟩:=z9l (List.mem_of_mem_eraseIdx hx)
  exact(hr i hi).sz.1
 omega
theorem zj6 {l:List A3}{k:Nat}(hk:k<l.length)(v:Int):∀i,sumU (updA l k v) i=sumU l i+if k<i then v else 0
 | 0=>by simp[sumU]
 | i+1=>by
   rw[sumU,zj6 hk v i,sumU,zf9 hk]
   by_cases h:i=k
   . subst h;rw[if_pos rfl,if_neg (Nat.lt_irrefl _),if_pos (by omega)];simp only;omega
   . rw[if_neg h]
     by_cases h2:k<i
     . rw[if_pos h2,if_pos (by omega)];omega
     . rw[if_neg h2,if_neg (by omega)];omega
theorem zki {l:List A3}{k:Nat}(hk:k<l.length)(v:Int)(i:Nat):(aat (updA l k v) i).t=(aat l i).t:=by
 rw[zf9 hk]
 split
 . rename_i e;rw[e]
 . rfl
def drp (S:Sf)(j k:Nat):Sf:=⟨S.c,updA S.A k (-(oat S.H j).sz),S.H.eraseIdx j,S.w,S.s,S.a,S.L⟩
theorem z1h {S:Sf}(hv:VSf S){j k:Nat}(hj:j<S.H.length)(hk:k<S.A.length)(hkt:(aat S.A k).t=(oat S.H j).tn):VSf (drp S j k):=by
 have hR:RL S.H:=fun i hi=>(hv.ho i hi).r
 have hlen:(S.H.eraseIdx j).length=S.H.length-1:=by rw[wB,if_pos hj]
 have hu:=hv.hu k hk
 have hge:=zxp hR hj
 rw[<-hkt,<-hu]at hge
 have hsz:=(hR j hj).sz
 have hkv:=hv.va.ok k hk
 have he:uerr S.A k (-(oat S.H j).sz) true=0:=by rw[uerr,if_pos rfl,if_neg];have:=hkv.u;omega
 have hsrt:=zx1 (ze4 hv.ho) hj
 refine⟨hv.c,zl9 hv.va hk he,hv.vk,?_,?_,?_,?_⟩
 . show(S.H.eraseIdx j).length<=4096
   have:=hv.hn;omega
 . intro i hi
   have hi':i<S.H.length-1:=by rw[<-hlen];exact hi
   refine⟨?_,fun h0=>hsrt (i-1) i (by omega) hi,?_⟩
   . show ROk (oat (S.H.eraseIdx j) i)
     rw[zgo hj]
     split
     . exact hR i (by omega)
     . exact hR (i+1) (by omega)
   . have:∃k',k'<S.A.length/\(aat S.A k').t=(oat (S.H.eraseIdx j) i).tn:=by
      rw[zgo hj]
      split
      . exact(hv.ho i (by omega)).t
      . exact(hv.ho (i+1) (by omega)).t
     obtain⟨k',hk',e⟩:=this
     exact⟨k',by show k'<(updA _ _ _).length;rw[za6];exact hk',by show(aat (updA _ _ _) k').t=_;rw[zki hk];exact e⟩
 . intro k' hk'
   have hk2:k'<S.A.length:=by have:k'<(updA S.A k (-(oat S.H j).sz)).length:=hk';rwa [za6]at this
   show(aat (updA S.A k (-(oat S.H j).sz)) k').u=usd (S.H.eraseIdx j) (aat (updA S.A k (-(oat S.H j).sz)) k').t (S.H.eraseIdx j).length
   rw[hlen,zki hk,zpk hj,zf9 hk]
   by_cases e:k'=k
   . subst e
     rw[if_pos rfl,if_pos hkt.symm]
     simp only
     rw[hu];omega
   . rw[if_neg e,if_neg,hv.hu k' hk2]
     . omega
     . intro h
       exact e (zkl hv.va hk2 hk (h.symm.trans hkt.symm))
 . show sumU (updA S.A k (-(oat S.H j).sz)) (updA S.A k (-(oat S.H j).sz)).length<=S.c
   rw[za6,zj6 hk,if_pos hk]
   have:=hv.ht;omega
theorem qez {S:Sf}(h:Tn S.A){j k:Nat}(hk:k<S.A.length):Tn (drp S j k).A:=fun i hi=>by
 show(aat (updA _ _ _) i).t<=_
 rw[zki hk]
 refine h i ?_
 have:i<(updA S.A k (-(oat S.H j).sz)).length:=hi
 rwa [za6]at this
end Go.Proofs.S17
namespace Go.Proofs.S17
open Go Go.Ev Go.Proofs Go.Proofs.S17.Q
variable {gl :Gl} {n:Nat}
open Go.Mp (esN MOk)
def wl (l:List Ob)(t:Int):Nat->List Ob
 | 0=>[]
 | i+1=>if(oat l i).tn=t then wl l t i++[oat l i]else wl l t i
theorem wl_y {l:List Ob}{t:Int}{i:Nat}(h:(oat l i).tn=t):wl l t (i+1)=wl l t i++[oat l i]:=by rw[wl,if_pos h]
theorem wl_n {l:List Ob}{t:Int}{i:Nat}(h:¬(oat l i).tn=t):wl l t (i+1)=wl l t i:=by rw[wl,if_neg h]
theorem zxm (l:List Ob)(t:Int):∀i,(wl l t i).length<=i
 | 0=>Nat.le_refl _
 | i+1=>by
   have:=zxm l t i
   rw[wl];split
   . rw[wD];simp;exact this
   . omega
theorem zpg {l:List Ob}{t:Int}{x:Ob}:∀{i:Nat},x∈wl l t i↔∃j,j<i/\(oat l j).tn=t/\oat l j=x
 | 0=>by simp[wl]
 | i+1=>by
   rw[wl]
   split
   . rename_i h
     rw[List.mem_append,zpg,List.mem_singleton]
     constructor
     . rintro (⟨j,h1,h2,h3⟩|rfl)
       . exact⟨j,by omega,h2,h3⟩
       . exact⟨i,by omega,h,rfl⟩
     . rintro ⟨j,h1,h2,h3⟩
       by_cases e:j=i
       . subst e;exact .inr h3.symm
       . exact .inl ⟨j,by omega,h2,h3⟩
   . rename_i h
     rw[zpg]
     constructor
     . rintro ⟨j,h1,h2,h3⟩;exact⟨j,by omega,h2,h3⟩
     . rintro ⟨j,h1,h2,h3⟩
       by_cases e:j=i
       . subst e;exact absurd h2 h
       . exact⟨j,by omega,h2,h3⟩
theorem z6w {l:List Ob}{i:Nat}(h:i<l.length)(jk:List AV):(hs l++jk)[i]? =some (.agg [.str (oat l i).nm,i64 (oat l i).tn,i64 (oat l i).sz,i64 (oat l i).la]):=by
 rw[List.getElem?_append_left (by rw[zaa];exact h)];exact zfe h
theorem zuf {l:List Ob}(h:l.length<=8192):l.length+1<=LIM:=by unfold LIM;omega
def L51 :MC:=match m51 with| .seq _ (.seq _ (.seq (.seq _ (.block _ (.loop _ b))) _))=>b|_=>.skip
def S51A (S:Sf)(q:Fl)(tot:Int)(m:Mem)(t:Int)(i:Nat):St :=
 ⟨[.set 16 (i64 i),.set 15 (i64 S.H.length),.set 14 (.lst q.fh q.mh (hs S.H)),.set 6 (.sl 5006 [] 0 (wl S.H t i).length),.set 4 (.ptr 4 []),.set 1 (i64 t),.set 0 (.ptr 100000 [])],[(100001,.mp (esN m.1) m.2),(100000,.fix shX (XA S q tot)),(4,.fix sO oV0),(5006,.grow sO (hs (wl S.H t i)))]⟩
theorem zxw {d:Nat}{S:Sf}{q:Fl}(hq:FlOk S q){tot:Int}{m:Mem}{t:Int}(hH:S.H.length<=8192){i:Nat}(hi:i<S.H.length) :
  zbn [.slot 0,.slot 1,.slot 4,.own 6 5006 (.st [.sc,.sc,.sc,.sc]),.slot 14,.slot 15,.slot 16,.key 4] (evC gl (call gl tab d) L51 (S51A S q tot m t i))=some (S51A S q tot m t (i+1)):=by
 have hx:=zfe hi
 have hmh:=hq.h.eq hi
 have hle:=zxm S.H t i
 have hlim:=zuf (show(wl S.H t i).length<=8192 by omega)
 have hx2:=fun jk=>z6w hi jk
 have e1:((i+1:Nat):Int)=(i:Int)+1:=by omega
 by_cases h:(oat S.H i).tn=t
 . have e:((oat S.H i).tn==t)=true:=by simpa using h
   have e2:=zug (wl S.H t i) (oat S.H i)
   have e3:=zor (wl S.H t i)
   unfold S51A
   rw[wl_y h,wD]
   generalize wl S.H t i=W at *
   generalize oat S.H i=o at *
   simp(disch:=apply zq;omega) only[go_sem,simprocAttr,↓Nat.reduceEqDiff,xx,L51,m51,zaa,hx,hmh,e,e1,e2,e3,hlim,wF,hx]
 . have e:((oat S.H i).tn==t)=false:=by simpa using h
   unfold S51A
   rw[wl_n h]
   generalize wl S.H t i=W at *
   generalize oat S.H i=o at *
   simp(disch:=apply zq;omega) only[go_sem,simprocAttr,↓Nat.reduceEqDiff,xx,L51,m51,zaa,hx,hmh,e,e1,hx]
def S51B (S:Sf)(q:Fl)(jk:List AV)(tot:Int)(m:Mem)(t:Int)(i:Nat):St :=
 ⟨[.set 16 (i64 i),.set 15 (i64 S.H.length),.set 14 (.sl 100001 [] 0 S.H.length),.set 6 (.sl 5006 [] 0 (wl S.H t i).length),.set 4 (.ptr 4 []),.set 1 (i64 t),.set 0 (.ptr 100000 [])],[(100002,.mp (esN m.1) m.2),(100001,.grow sO (hs S.H++jk)),(100000,.fix shX (XB S q tot)),(4,.fix sO oV0),(5006,.grow sO (hs (wl S.H t i)))]⟩
theorem zxv {d:Nat}{S:Sf}{q:Fl}{jk:List AV}(hq:FlOk S q){tot:Int}{m:Mem}{t:Int}(hH:S.H.length<=8192){i:Nat}(hi:i<S.H.length) :
  zbn [.slot 0,.slot 1,.slot 4,.own 6 5006 (.st [.sc,.sc,.sc,.sc]),.slot 14,.slot 15,.slot 16,.key 4] (evC gl (call gl tab d) L51 (S51B S q jk tot m t i))=some (S51B S q jk tot m t (i+1)):=by
 have hx:=zfe hi
 have hmh:=hq.h.eq hi
 have hle:=zxm S.H t i
 have hlim:=zuf (show(wl S.H t i).length<=8192 by omega)
 have hx2:=fun jk=>z6w hi jk
 have e1:((i+1:Nat):Int)=(i:Int)+1:=by omega
 by_cases h:(oat S.H i).tn=t
 . have e:((oat S.H i).tn==t)=true:=by simpa using h
   have e2:=zug (wl S.H t i) (oat S.H i)
   have e3:=zor (wl S.H t i)
   unfold S51B
   rw[wl_y h,wD]
   generalize wl S.H t i=W at *
   generalize oat S.H i=o at *
   simp(disch:=apply zq;omega) only[go_sem,simprocAttr,↓Nat.reduceEqDiff,xx,L51,m51,zaa,hx,hmh,e,e1,e2,e3,hlim,wF,hx2]
 . have e:((oat S.H i).tn==t)=false:=by simpa using h
   unfold S51B
   rw[wl_n h]
   generalize wl S.H t i=W at *
   generalize oat S.H i=o at *
   simp(disch:=apply zq;omega) only[go_sem,simprocAttr,↓Nat.reduceEqDiff,xx,L51,m51,zaa,hx,hmh,e,e1,hx2]
theorem ztn (h:14<=n){S:Sf}{q:Fl}(hq:FlOk S q)(hH:S.H.length<=8192){t:Int}(hW:wl S.H t S.H.length=[]){tot:Int}{m:Mem} :
  call gl tab n 51 [.ptr 100000 [],i64 t] [(100000,.fix shX (XA S q tot)),(100001,.mp (esN m.1) m.2)] =
   some (.tup [oV0,.bool false],[(100000,.fix shX (XA S q tot)),(100001,.mp (esN m.1) m.2)],[]):=by
 obtain⟨d,rfl⟩:=wG h
 have hst:=fun i (hi:i<S.H.length)=>@zxw gl (d+13) S q hq tot m t hH i hi
 simp only[L51,m51]at hst
 rw[zbe (fd:=fd51) rfl]
 simp(disch:=apply zq;omega) only[go_sem,simprocAttr,↓Nat.reduceEqDiff,xx,fd51,m51,zaa]
 rw[zam (S51A S q tot m t) S.H.length (by unfold LF;omega)]
 . unfold S51A
   rw[hW]
   simp(disch:=apply zq;omega) only[go_sem,simprocAttr,↓Nat.reduceEqDiff,xx,zer]
 . simp(disch:=apply zq;omega) only[go_sem,simprocAttr,↓Nat.reduceEqDiff,xx,S51A,wl,zer]
 . exact hst
 . simp(disch:=apply zq;omega) only[go_sem,simprocAttr,↓Nat.reduceEqDiff,xx,S51A]
theorem z2s [Nonempty (H.GlK gl)](h:14<=n){S:Sf}{fh fl:Bool}{mh:Sh}(hk:KOk S)(hmh:Mk S.H mh sO)(hv:VSf S)(ht:Tn S.A)(hnm:∀i,i<S.H.length->(oat S.H i).nm.length<=5000){t:Int}{tot:Int}(htot:0<=tot/\tot<=2^60){m:Mem}(hm:MOk (cnt S) m.1)
  {W:List Ob} (hW:wl S.H t S.H.length=W) (hN:1<=W.length) {j k:Nat} (hj:j<S.H.length) (hjW:oat W (mst S W m (W.length-1)).1=oat S.H j) (hkl:k<S.A.length) (hkt:(aat S.A k).t=(oat S.H j).tn) :
  call gl tab n 51 [.ptr 100000 [],i64 t] [(100000,.fix shX (XA S ⟨false,fh,fl,sA,mh⟩ tot)),(100001,.mp (esN m.1) m.2)] =
   some (.tup [oV (oat S.H j),.bool true],[(100000,.fix shX (XR S (updA S.A k (-(oat S.H j).sz)) ⟨false,fh,fl,sA,mh⟩ (tot-(oat S.H j).sz) 20000 (S.H.length-1) 100001)),(100001,.mp (esN (mst S W m (W.length-1)).2.1) (mst S W m (W.length-1)).2.2)],[.grow sO (hs (S.H.eraseIdx j)++[oV0])]):=by
 obtain⟨d,rfl⟩:=wG h
 have hH:=hv.hn
 have hR:RL S.H:=fun i hi=>(hv.ho i hi).r
 have hst:=fun i (hi:i<S.H.length)=>@zxw gl (d+13) S ⟨false,fh,fl,sA,mh⟩ ⟨.inr rfl,hmh⟩ tot m t (by omega) i hi
 simp only[L51,m51]at hst
 have hWl:W.length<=8192:=by rw[<-hW];have:=zxm S.H t S.H.length;omega
 have hWn:∀i,i<W.length->(oat W i).nm.length<=5000:=fun i hi=>by
  have:=zsa hi
  generalize oat W i=x at *
  rw[<-hW,zpg]at this
  obtain⟨j',h1,_,rfl⟩:=this
  exact hnm j' h1
 have c1:=@z9k gl (d+13) _ (by omega) S ⟨false,fh,fl,sA,mh⟩ hk tot W hWn ⟨hN,hWl⟩ m hm
 rw[hjW]at c1
 have htn:I64 (oat S.H j).tn:=by rw[<-hkt];have:=ht k hkl;have:=zeu hv.va hkl;exact⟨by omega,by omega⟩
 have hsz:0<=(oat S.H j).sz/\(oat S.H j).sz<=(aat S.A k).u:=by
  rw[hv.hu k hkl,hkt];have:=(hR j hj).sz;exact⟨by omega,zxp hR hj⟩
 have c2:=@z5j gl (d+13) (by omega) S fh fl mh hmh (by omega) (ze4 hv.ho) hv.va ht j k hj hkl hkt htn hsz tot htot (esN (mst S W m (W.length-1)).2.1) (mst S W m (W.length-1)).2.2
 generalize (mst S W m (W.length-1)).2=m2 at *
 generalize updA S.A k (-(oat S.H j).sz)=A2 at *
 generalize hs (S.H.eraseIdx j)=he at *
 generalize oat S.H j=o at *
 have hne:((W.length:Int)==0)=false:=by rw[beq_eq_false_iff_ne];omega
 rw[zbe (fd:=fd51) rfl]
 simp(disch:=apply zq;omega) only[go_sem,simprocAttr,↓Nat.reduceEqDiff,xx,fd51,m51,zaa]
 rw[zam (S51A S ⟨false,fh,fl,sA,mh⟩ tot m t) S.H.length (by unfold LF;omega)]
 . unfold S51A
   rw[hW]
   simp(disch:=apply zq;omega) only[go_sem,simprocAttr,↓Nat.reduceEqDiff,xx,zer,hne,c1,c2]
 . simp(disch:=apply zq;omega) only[go_sem,simprocAttr,↓Nat.reduceEqDiff,xx,S51A,wl,zer]
 . exact hst
 . simp(disch:=apply zq;omega) only[go_sem,simprocAttr,↓Nat.reduceEqDiff,xx,S51A]
theorem ztm (h:14<=n){S:Sf}{q:Fl}{jk:List AV}(hq:FlOk S q)(hH:S.H.length<=8192){t:Int}(hW:wl S.H t S.H.length=[]){tot:Int}{m:Mem} :
  call gl tab n 51 [.ptr 100000 [],i64 t] [(100000,.fix shX (XB S q tot)),(100001,.grow sO (hs S.H++jk)),(100002,.mp (esN m.1) m.2)] =
   some (.tup [oV0,.bool false],[(100000,.fix shX (XB S q tot)),(100001,.grow sO (hs S.H++jk)),(100002,.mp (esN m.1) m.2)],[]):=by
 obtain⟨d,rfl⟩:=wG h
 have hst:=fun i (hi:i<S.H.length)=>@zxv gl (d+13) S q jk hq tot m t hH i hi
 simp only[L51,m51]at hst
 rw[zbe (fd:=fd51) rfl]
 simp(disch:=apply zq;omega) only[go_sem,simprocAttr,↓Nat.reduceEqDiff,xx,fd51,m51,zaa]
 rw[zam (S51B S q jk tot m t) S.H.length (by unfold LF;omega)]
 . unfold S51B
   rw[hW]
   simp(disch:=apply zq;omega) only[go_sem,simprocAttr,↓Nat.reduceEqDiff,xx,zer]
 . simp(disch:=apply zq;omega) only[go_sem,simprocAttr,↓Nat.reduceEqDiff,xx,S51B,wl,zer]
 . exact hst
 . simp(disch:=apply zq;omega) only[go_sem,simprocAttr,↓Nat.reduceEqDiff,xx,S51B]
theorem z2r [Nonempty (H.GlK gl)](h:14<=n){S:Sf}{fh fl:Bool}{mh:Sh}{jk:List AV}(hk:KOk S)(hmh:Mk S.H mh sO)(hv:VSf S)(ht:Tn S.A)(hnm:∀i,i<S.H.length->(oat S.H i).nm.length<=5000){t:Int}{tot:Int}(htot:0<=tot/\tot<=2^60){m:Mem}(hm:MOk (cnt S) m.1)
  {W:List Ob} (hW:wl S.H t S.H.length=W) (hN:1<=W.length) {j k:Nat} (hj:j<S.H.length) (hjW:oat W (mst S W m (W.length-1)).1=oat S.H j) (hkl:k<S.A.length) (hkt:(aat S.A k).t=(oat S.H j).tn) :
  call gl tab n 51 [.ptr 100000 [],i64 t] [(100000,.fix shX (XB S ⟨false,fh,fl,sA,mh⟩ tot)),(100001,.grow sO (hs S.H++jk)),(100002,.mp (esN m.1) m.2)] =
   some (.tup [oV (oat S.H j),.bool true],[(100000,.fix shX (XR S (updA S.A k (-(oat S.H j).sz)) ⟨false,fh,fl,sA,mh⟩ (tot-(oat S.H j).sz) 20000 (S.H.length-1) 100002)),(100001,.grow sO (hs S.H++jk)),(100002,.mp (esN (mst S W m (W.length-1)).2.1) (mst S W m (W.length-1)).2.2)],[.grow sO (hs (S.H.eraseIdx j)++[oV0])]):=by
 obtain⟨d,rfl⟩:=wG h
 have hH:=hv.hn
 have hR:RL S.H:=fun i hi=>(hv.ho i hi).r
 have hst:=fun i (hi:i<S.H.length)=>@zxv gl (d+13) S ⟨false,fh,fl,sA,mh⟩ jk ⟨.inr rfl,hmh⟩ tot m t (by omega) i hi
 simp only[L51,m51]at hst
 have hWl:W.length<=8192:=by rw[<-hW];have:=zxm S.H t S.H.length;omega
 have hWn:∀i,i<W.length->(oat W i).nm.length<=5000:=fun i hi=>by
  have:=zsa hi
  generalize oat W i=x at *
  rw[<-hW,zpg]at this
  obtain⟨j',h1,_,rfl⟩:=this
  exact hnm j' h1
 have c1:=@z9j gl (d+13) _ (by omega) S ⟨false,fh,fl,sA,mh⟩ jk hk tot W hWn ⟨hN,hWl⟩ m hm
 rw[hjW]at c1
 have htn:I64 (oat S.H j).tn:=by rw[<-hkt];have:=ht k hkl;have:=zeu hv.va hkl;exact⟨by omega,by omega⟩
 have hsz:0<=(oat S.H j).sz/\(oat S.H j).sz<=(aat S.A k).u:=by
  rw[hv.hu k hkl,hkt];have:=(hR j hj).sz;exact⟨by omega,zxp hR hj⟩
 have c2:=@z5i gl (d+13) (by omega) S fh fl mh jk hmh (by omega) (ze4 hv.ho) hv.va ht j k hj hkl hkt htn hsz tot htot (esN (mst S W m (W.length-1)).2.1) (mst S W m (W.length-1)).2.2
 generalize (mst S W m (W.length-1)).2=m2 at *
 generalize updA S.A k (-(oat S.H j).sz)=A2 at *
 generalize hs (S.H.eraseIdx j)=he at *
 generalize oat S.H j=o at *
 have hne:((W.length:Int)==0)=false:=by rw[beq_eq_false_iff_ne];omega
 rw[zbe (fd:=fd51) rfl]
 simp(disch:=apply zq;omega) only[go_sem,simprocAttr,↓Nat.reduceEqDiff,xx,fd51,m51,zaa]
 rw[zam (S51B S ⟨false,fh,fl,sA,mh⟩ jk tot m t) S.H.length (by unfold LF;omega)]
 . unfold S51B
   rw[hW]
   simp(disch:=apply zq;omega) only[go_sem,simprocAttr,↓Nat.reduceEqDiff,xx,zer,hne,c1,c2]
 . simp(disch:=apply zq;omega) only[go_sem,simprocAttr,↓Nat.reduceEqDiff,xx,S51B,wl,zer]
 . exact hst
 . simp(disch:=apply zq;omega) only[go_sem,simprocAttr,↓Nat.reduceEqDiff,xx,S51B]
end Go.Proofs.S17
