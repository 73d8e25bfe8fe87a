/-
  Chapter 17: an object dropped. No condition.
-/
import Derived.Test.YthipjfnealbheaaGreatDoorW97G17x3
set_option linter.all false
open Nat renaming exists_eq_add_of_le'->wB,le_refl->wC,lt_trichotomy->wD
open List renaming length_eraseIdx->wE,length_append->wF,getD_eq_getElem?_getD->wG,getElem?_eq_getElem->wH,length_singleton->wJ,length_drop->wK
namespace Go.Proofs.S97
open Go Go.Ev Go.Proofs Go.Proofs.S97.Q
variable {gl :Gl} {n:Nat}
open Go.Mp (esN fN MOk)
theorem qah (h:1<=n){l:List Ob}{k:Nat}(hk:k<l.length)(hl:l.length<=8192) :
  call gl tab n 70 [.sl 100000 [] 0 l.length,i64 k,i64 ((k:Int)+1)] [(100000,.grow sO (hs l))]=some (.sl 100000 [] 0 (l.length-1),[(100000,.grow sO (hs (l.eraseIdx k)++[.agg [.str [],i64 0,i64 0,i64 0]]))],[]):=by
 obtain⟨d,rfl⟩:=wB h
 have e1:((k:Int)==(k:Int)+1)=false:=by rw[beq_eq_false_iff_ne];omega
 have e2:List.take (l.length-(k+1)) (List.drop (k+1) (hs l))=hs (l.drop (k+1)):=by
  rw[List.take_of_length_le (by simp[zaa])];simp[hs]
 have e3:(hs (l.drop (k+1))).length=l.length-(k+1):=by rw[zaa,wK]
 have e5:decide (k+(l.length-(k+1))<=l.length)=true:=decide_eq_true (by omega)
 have e6:k+(l.length-(k+1))=l.length-1:=by omega
 have e7:List.take k (hs l)=hs (l.take k):=by simp[hs,List.map_take]
 have e8:List.drop (l.length-1) (hs l)=hs (l.drop (l.length-1)):=by simp[hs]
 have e9:(hs (l.take k)).length=k:=by rw[zaa,List.length_take];omega
 have e10:(hs (l.drop (l.length-1))).length=1:=by rw[zaa,wK];omega
 have e11:hs (l.take k)++hs (l.drop (k+1))=hs (l.eraseIdx k):=by rw[List.eraseIdx_eq_take_drop_succ];simp[hs]
 have e12:(hs (l.eraseIdx k)).length=l.length-1:=by rw[zaa,wE,if_pos hk]
 have e14:(l.eraseIdx k).length=l.length-1:=by rw[wE,if_pos hk]
 have e13:l.length-(l.length-1)=1:=by omega
 rw[zbl (fd:=fd70) rfl]
 simp(disch:=apply zq;omega) only[go_sem,simprocAttr,↓Nat.reduceEqDiff,xx,fd70,m70,zaa,e1,e2,e3,Nat.sub_zero,false_and,decide_false,e5,e6,e7,e8,e9,e10,e11,e13,e14,wF]
 rw[List.take_append_of_le_length (by omega),<-e12,List.take_length,e12,List.drop_of_length_le (by simp only[wF,e12,e10];omega)]
 simp only[List.append_nil]
theorem ze3 :∀(l:List Ob),zcz (hs l)=true
 | []=>rfl
 | o::l=>by
   show(zc5 (oV o)&&zcz (hs l))=true
   rw[ze3 l];rfl
theorem zye (l:List Ob)(jk:List AV):(hs l++jk).take l.length=hs l:=by rw[<-zaa,List.take_left]
theorem zm5 (h:1<=n){f:Bool}{l:List Ob}(hl:l.length<=8192):call gl tab n 26 [.lst f sO (hs l)] []=some (.sl 20000 [] 0 l.length,[],[.grow sO (hs l)]):=by
 obtain⟨d,rfl⟩:=wB h
 have hn:=ze3 l
 rw[zgq (fd:=fd26) rfl rfl]
 have h1:l.length<=LIM:=by unfold LIM;omega
 simp[zjj,zaa,h1,Sh.beq,Sh.beqs]
abbrev XR (S:Sf)(A:List A3)(q:Fl)(tot:Int)(kh nh km:Nat):AV:=.aggR [.aggR [i64 S.c,.lst false sA (ac A),.sl kh [] 0 nh,skV S q],i64 tot,.mp km]
theorem z8s (h:7<=n){S:Sf}{fh fl:Bool}{mh:Sh}(hmh:Mk S.H mh sO)(hH:S.H.length<=8192)(hS:Srt S.H)(hv:VA S.A)(ht:Tn S.A){j k:Nat}(hj:j<S.H.length)(hk:k<S.A.length)(hkq:(aat S.A k).t=(oat S.H j).tn)(hq:I64 (oat S.H j).tn)(hsz:0<=(oat S.H j).sz/\(oat S.H j).sz<=(aat S.A k).u){tot:Int}(htot:0<=tot/\tot<=2^60){es:List (AV×AV×Nat)}{c:Nat} :
  call gl tab n 41 [.ptr 100000 [],oV (oat S.H j)] [(100000,.fix shX (XA S ⟨false,fh,fl,sA,mh⟩ tot)),(100001,.mp es c)] =
   some (.tup [],[(100000,.fix shX (XR S (updA S.A k (-(oat S.H j).sz)) ⟨false,fh,fl,sA,mh⟩ (tot-(oat S.H j).sz) 20000 (S.H.length-1) 100001)),(100001,.mp es c)],[.grow sO (hs (S.H.eraseIdx j)++[oV0])]):=by
 obtain⟨d,rfl⟩:=wB h
 have hne:=hmh.eq hj
 subst hne
 obtain⟨j',hp,c1⟩:=@zih gl (d+6) (by omega) fh sO S.H (.inr rfl) hH hS (oat S.H j).nm
 have hjj:j=j':=by
  rcases wD j j' with h3|h3|h3
  . have:=hp.lo j h3;rw[Bl.irrefl]at this;cases this
  . exact h3
  . have:=hp.hi j' (wC _) (by omega);rw[hS j' j h3 hj]at this;cases this
 subst hjj
 have c2:=fun f=>@zm5 gl (d+6) (by omega) f S.H hH
 have c3:=@qah gl (d+6) (by omega) S.H j hj hH
 have hu:=hv.ok k hk
 have he:uerr S.A k (-(oat S.H j).sz) true=0:=by rw[uerr,if_pos rfl,if_neg];have:=hu.u;omega
 have c4:=@zs6 gl (d+6) (by omega) S.A hv ht (oat S.H j).tn (-(oat S.H j).sz) hq k hk hkq he
 have hu:=hu.u
 have hn:=ze3 S.H
 have htk:=fun jk=>zye S.H jk
 generalize isAt S.H (oat S.H j).nm j=bj at *
 generalize oat S.H j=o at *
 rw[zbl (fd:=fd41) rfl]
 simp(disch:=apply zq;omega) only[go_sem,simprocAttr,↓Nat.reduceEqDiff,xx,fd41,m41,c1,c2,c3,c4,hn,zaa,Int.zero_sub,htk]
theorem z8r (h:7<=n){S:Sf}{fh fl:Bool}{mh:Sh}{jk:List AV}(hmh:Mk S.H mh sO)(hH:S.H.length<=8192)(hS:Srt S.H)(hv:VA S.A)(ht:Tn S.A){j k:Nat}(hj:j<S.H.length)(hk:k<S.A.length)(hkq:(aat S.A k).t=(oat S.H j).tn)(hq:I64 (oat S.H j).tn)(hsz:0<=(oat S.H j).sz/\(oat S.H j).sz<=(aat S.A k).u){tot:Int}(htot:0<=tot/\tot<=2^60){es:List (AV×AV×Nat)}{c:Nat} :
  call gl tab n 41 [.ptr 100000 [],oV (oat S.H j)] [(100000,.fix shX (XB S ⟨false,fh,fl,sA,mh⟩ tot)),(100001,.grow sO (hs S.H++jk)),(100002,.mp es c)] =
   some (.tup [],[(100000,.fix shX (XR S (updA S.A k (-(oat S.H j).sz)) ⟨false,fh,fl,sA,mh⟩ (tot-(oat S.H j).sz) 20000 (S.H.length-1) 100002)),(100001,.grow sO (hs S.H++jk)),(100002,.mp es c)],[.grow sO (hs (S.H.eraseIdx j)++[oV0])]):=by
 obtain⟨d,rfl⟩:=wB h
 have hne:=hmh.eq hj
 subst hne
 obtain⟨j',hp,c1⟩:=@zih gl (d+6) (by omega) false sO S.H (.inr rfl) hH hS (oat S.H j).nm
 have hjj:j=j':=by
  rcases wD j j' with h3|h3|h3
  . have:=hp.lo j h3;rw[Bl.irrefl]at this;cases this
  . exact h3
  . have:=hp.hi j' (wC _) (by omega);rw[hS j' j h3 hj]at this;cases this
 subst hjj
 have c2:=fun f=>@zm5 gl (d+6) (by omega) f S.H hH
 have c3:=@qah gl (d+6) (by omega) S.H j hj hH
 have hu:=hv.ok k hk
 have he:uerr S.A k (-(oat S.H j).sz) true=0:=by rw[uerr,if_pos rfl,if_neg];have:=hu.u;omega
 have c4:=@zs6 gl (d+6) (by omega) S.A hv ht (oat S.H j).tn (-(oat S.H j).sz) hq k hk hkq he
 have hu:=hu.u
 have hn:=ze3 S.H
 have htk:=fun jk=>zye S.H jk
 generalize isAt S.H (oat S.H j).nm j=bj at *
 generalize oat S.H j=o at *
 rw[zbl (fd:=fd41) rfl]
 simp(disch:=apply zq;omega) only[go_sem,simprocAttr,↓Nat.reduceEqDiff,xx,fd41,m41,c1,c2,c3,c4,hn,zaa,Int.zero_sub,htk]
end Go.Proofs.S97
namespace Go.Proofs.S97
open Go Go.Ev Go.Proofs Go.Proofs.S97.Q
theorem znw (x:Ob)(l:List Ob)(i:Nat):oat (x::l) (i+1)=oat l i:=by simp[oat]
theorem zx1 (x:Ob)(l:List Ob):oat (x::l) 0=x:=rfl
theorem zex {l:List Ob}{j:Nat}(hj:j<l.length)(i:Nat):oat (l.eraseIdx j) i=if i<j then oat l i else oat l (i+1):=by
 unfold oat
 simp only[wG,List.getElem?_eraseIdx]
 split<;>rfl
theorem zd1 {S:Sf}(h:∀i,i<S.H.length->HOk S i):Srt S.H:=by
 intro i j
 induction j with
 | zero=>intro h1;omega
 | succ j ih =>
   intro h1 h2
   have h3:=(h (j+1) h2).o (by omega)
   rw[show j+1-1=j by omega]at h3
   by_cases e:i=j
   . rw[e];exact h3
   . exact Bl.trans (ih (by omega) (by omega)) h3
theorem z0e {l:List Ob}(h:Srt l){j:Nat}(hj:j<l.length):Srt (l.eraseIdx j):=by
 intro a b hab hb
 rw[wE,if_pos hj]at hb
 rw[zex hj,zex hj]
 split<;>split
 . exact h a b hab (by omega)
 . exact h a (b+1) (by omega) (by omega)
 . omega
 . exact h (a+1) (b+1) (by omega) (by omega)
def usL (t:Int):List Ob->Int
 | []=>0
 | x::l=>(if x.tn=t then x.sz else 0)+usL t l
theorem zu5 (x:Ob)(l:List Ob)(t:Int):∀i,usd (x::l) t (i+1)=(if x.tn=t then x.sz else 0)+usd l t i
 | 0=>by simp[usd,oat]
 | i+1=>by
   rw[usd,zu5 x l t i,znw,usd];omega
theorem zjn (t:Int):∀l:List Ob,usd l t l.length=usL t l
 | []=>rfl
 | x::l=>by rw[List.length_cons,zu5,zjn t l,usL]
theorem zq2 (t:Int):∀{l:List Ob} {j:Nat},j<l.length->usL t (l.eraseIdx j)=usL t l-if(oat l j).tn=t then(oat l j).sz else 0
 | [],_,h=>by simp at h
 | x::l,0,_=>by rw[List.eraseIdx_cons_zero,usL,zx1];omega
 | x::l,j+1,h=>by
   rw[List.eraseIdx_cons_succ,usL,usL,zq2 t (by simpa using h),znw];omega
theorem zll {l:List Ob}{j:Nat}(hj:j<l.length)(t:Int):usd (l.eraseIdx j) t (l.length-1)=usd l t l.length-if(oat l j).tn=t then(oat l j).sz else 0:=by
 have e:(l.eraseIdx j).length=l.length-1:=by rw[wE,if_pos hj]
 rw[<-e,zjn,zjn,zq2 t hj]
theorem z9j {t:Int}:∀{l:List Ob},(∀x∈l,1<=x.sz)->0<=usL t l
 | [],_=>Int.le_refl _
 | x::l,h=>by
   have:=z9j (t:=t) (l:=l) fun y hy=>h y (by simp[hy])
   have:=h x (by simp)
   rw[usL];split<;>omega
theorem zib {l:List Ob}{i:Nat}(h:i<l.length):oat l i∈l:=by
 unfold oat
 rw[wG,wH h];exact List.getElem_mem h
theorem zpt {l:List Ob}{x:Ob}(h:x∈l):∃i,i<l.length/\oat l i=x:=by
 obtain⟨i,hi,e⟩:=List.getElem_of_mem h
 exact⟨i,hi,by unfold oat;rw[wG,wH hi];exact e⟩
theorem zzz {l:List Ob}(hr:RL l){j:Nat}(hj:j<l.length):(oat l j).sz<=usd l (oat l j).tn l.length:=by
 have h1:=zll hj (oat l j).tn
 rw[if_pos rfl]at h1
 have e:(l.eraseIdx j).length=l.length-1:=by rw[wE,if_pos hj]
 rw[<-e,zjn]at h1
 have h2:=z9j (t:=(oat l j).tn) (l:=l.eraseIdx j) fun x hx=>by
  obtain⟨i,hi,rfl⟩:=zpt (List.mem_of_mem_eraseIdx hx)
  exact(hr i hi).sz.1
 omega
theorem zk6 {l:List A3}{k:Nat}(hk:k<l.length)(v:Int):∀i,sumU (updA l k v) i=sumU l i+if k<i then v else 0
 | 0=>by simp[sumU]
 | i+1=>by
   rw[sumU,zk6 hk v i,sumU,zfe hk]
   by_cases h:i=k
   . subst h;rw[if_pos rfl,if_neg (Nat.lt_irrefl _),if_pos (by omega)];simp only;omega
   . rw[if_neg h]
     by_cases h2:k<i
     . rw[if_pos h2,if_pos (by omega)];omega
     . rw[if_neg h2,if_neg (by omega)];omega
theorem zlm {l:List A3}{k:Nat}(hk:k<l.length)(v:Int)(i:Nat):(aat (updA l k v) i).t=(aat l i).t:=by
 rw[zfe hk]
 split
 . rename_i e;rw[e]
 . rfl
def drp (S:Sf)(j k:Nat):Sf:=⟨S.c,updA S.A k (-(oat S.H j).sz),S.H.eraseIdx j,S.w,S.s,S.a,S.L⟩
theorem z33 {S:Sf}(hv:VSf S){j k:Nat}(hj:j<S.H.length)(hk:k<S.A.length)(hkt:(aat S.A k).t=(oat S.H j).tn):VSf (drp S j k):=by
 have hR:RL S.H:=fun i hi=>(hv.ho i hi).r
 have hlen:(S.H.eraseIdx j).length=S.H.length-1:=by rw[wE,if_pos hj]
 have hu:=hv.hu k hk
 have hge:=zzz hR hj
 rw[<-hkt,<-hu]at hge
 have hsz:=(hR j hj).sz
 have hkv:=hv.va.ok k hk
 have he:uerr S.A k (-(oat S.H j).sz) true=0:=by rw[uerr,if_pos rfl,if_neg];have:=hkv.u;omega
 have hsrt:=z0e (zd1 hv.ho) hj
 refine⟨hv.c,znj hv.va hk he,hv.vk,?_,?_,?_,?_⟩
 . show(S.H.eraseIdx j).length<=4096
   have:=hv.hn;omega
 . intro i hi
   have hi':i<S.H.length-1:=by rw[<-hlen];exact hi
   refine⟨?_,fun h0=>hsrt (i-1) i (by omega) hi,?_⟩
   . show ROk (oat (S.H.eraseIdx j) i)
     rw[zex hj]
     split
     . exact hR i (by omega)
     . exact hR (i+1) (by omega)
   . have:∃k',k'<S.A.length/\(aat S.A k').t=(oat (S.H.eraseIdx j) i).tn:=by
      rw[zex hj]
      split
      . exact(hv.ho i (by omega)).t
      . exact(hv.ho (i+1) (by omega)).t
     obtain⟨k',hk',e⟩:=this
     exact⟨k',by show k'<(updA _ _ _).length;rw[zav];exact hk',by show(aat (updA _ _ _) k').t=_;rw[zlm hk];exact e⟩
 . intro k' hk'
   have hk2:k'<S.A.length:=by have:k'<(updA S.A k (-(oat S.H j).sz)).length:=hk';rwa [zav]at this
   show(aat (updA S.A k (-(oat S.H j).sz)) k').u=usd (S.H.eraseIdx j) (aat (updA S.A k (-(oat S.H j).sz)) k').t (S.H.eraseIdx j).length
   rw[hlen,zlm hk,zll hj,zfe hk]
   by_cases e:k'=k
   . subst e
     rw[if_pos rfl,if_pos hkt.symm]
     simp only
     rw[hu];omega
   . rw[if_neg e,if_neg,hv.hu k' hk2]
     . omega
     . intro h
       exact e (zgv hv.va hk2 hk (h.symm.trans hkt.symm))
 . show sumU (updA S.A k (-(oat S.H j).sz)) (updA S.A k (-(oat S.H j).sz)).length<=S.c
   rw[zav,zk6 hk,if_pos hk]
   have:=hv.ht;omega
theorem qi2 {S:Sf}(h:Tn S.A){j k:Nat}(hk:k<S.A.length):Tn (drp S j k).A:=fun i hi=>by
 show(aat (updA _ _ _) i).t<=_
 rw[zlm hk]
 refine h i ?_
 have:i<(updA S.A k (-(oat S.H j).sz)).length:=hi
 rwa [zav]at this
end Go.Proofs.S97
namespace Go.Proofs.S97
open Go Go.Ev Go.Proofs Go.Proofs.S97.Q
variable {gl :Gl} {n:Nat}
open Go.Mp (esN fN MOk)
def wl (l:List Ob)(t:Int):Nat->List Ob
 | 0=>[]
 | i+1=>if(oat l i).tn=t then wl l t i++[oat l i]else wl l t i
theorem wl_y {l:List Ob}{t:Int}{i:Nat}(h:(oat l i).tn=t):wl l t (i+1)=wl l t i++[oat l i]:=by rw[wl,if_pos h]
theorem wl_n {l:List Ob}{t:Int}{i:Nat}(h:¬(oat l i).tn=t):wl l t (i+1)=wl l t i:=by rw[wl,if_neg h]
theorem zzv (l:List Ob)(t:Int):∀i,(wl l t i).length<=i
 | 0=>wC _
 | i+1=>by
   have:=zzv l t i
   rw[wl];split
   . rw[wF];simp;exact this
   . omega
theorem zqw {l:List Ob}{t:Int}{x:Ob}:∀{i:Nat},x∈wl l t i↔∃j,j<i/\(oat l j).tn=t/\oat l j=x
 | 0=>by simp[wl]
 | i+1=>by
   rw[wl]
   split
   . rename_i h
     rw[List.mem_append,zqw,List.mem_singleton]
     constructor
     . rintro (⟨j,h1,h2,h3⟩|rfl)
       . exact⟨j,by omega,h2,h3⟩
       . exact⟨i,by omega,h,rfl⟩
     . rintro ⟨j,h1,h2,h3⟩
       by_cases e:j=i
       . subst e;exact .inr h3.symm
       . exact .inl ⟨j,by omega,h2,h3⟩
   . rename_i h
     rw[zqw]
     constructor
     . rintro ⟨j,h1,h2,h3⟩;exact⟨j,by omega,h2,h3⟩
     . rintro ⟨j,h1,h2,h3⟩
       by_cases e:j=i
       . subst e;exact absurd h2 h
       . exact⟨j,by omega,h2,h3⟩
theorem qac {l:List Ob}{i:Nat}(h:i<l.length)(jk:List AV):(hs l++jk)[i]? =some (.agg [.str (oat l i).nm,i64 (oat l i).tn,i64 (oat l i).sz,i64 (oat l i).la]):=by
 rw[List.getElem?_append_left (by rw[zaa];exact h)];exact zc7 h
theorem zjc {l:List Ob}(h:l.length<=8192):l.length+1<=LIM:=by unfold LIM;omega
def L51 :MC:=match m55 with| .seq _ (.seq _ (.seq (.seq _ (.block _ (.loop _ b))) _))=>b|_=>.skip
def S51A (S:Sf)(q:Fl)(tot:Int)(m:Mem)(t:Int)(i:Nat):St :=
 ⟨[.set 16 (i64 i),.set 15 (i64 S.H.length),.set 14 (.lst q.fh q.mh (hs S.H)),.set 6 (.sl 5006 [] 0 (wl S.H t i).length),.set 4 (.ptr 4 []),.set 1 (i64 t),.set 0 (.ptr 100000 [])],[(100001,.mp (esN m.1) m.2),(100000,.fix shX (XA S q tot)),(4,.fix sO oV0),(5006,.grow sO (hs (wl S.H t i)))]⟩
theorem zz9 {d:Nat}{S:Sf}{q:Fl}(hq:FlOk S q){tot:Int}{m:Mem}{t:Int}(hH:S.H.length<=8192){i:Nat}(hi:i<S.H.length) :
  za1 [.slot 0,.slot 1,.slot 4,.own 6 5006 (.st [.sc,.sc,.sc,.sc]),.slot 14,.slot 15,.slot 16,.key 4] (evC gl (call gl tab d) L51 (S51A S q tot m t i))=some (S51A S q tot m t (i+1)):=by
 have hx:=zc7 hi
 have hmh:=hq.h.eq hi
 have hle:=zzv S.H t i
 have hlim:=zjc (show(wl S.H t i).length<=8192 by omega)
 have hx2:=fun jk=>qac hi jk
 have e1:((i+1:Nat):Int)=(i:Int)+1:=by omega
 by_cases h:(oat S.H i).tn=t
 . have e:((oat S.H i).tn==t)=true:=by simpa using h
   have e2:=zg9 (wl S.H t i) (oat S.H i)
   have e3:=ze2 (wl S.H t i)
   unfold S51A
   rw[wl_y h,wF]
   generalize wl S.H t i=W at *
   generalize oat S.H i=o at *
   simp(disch:=apply zq;omega) only[go_sem,simprocAttr,↓Nat.reduceEqDiff,xx,L51,m55,zaa,hx,hmh,e,e1,e2,e3,hlim,wJ,hx]
 . have e:((oat S.H i).tn==t)=false:=by simpa using h
   unfold S51A
   rw[wl_n h]
   generalize wl S.H t i=W at *
   generalize oat S.H i=o at *
   simp(disch:=apply zq;omega) only[go_sem,simprocAttr,↓Nat.reduceEqDiff,xx,L51,m55,zaa,hx,hmh,e,e1,hx]
def S51B (S:Sf)(q:Fl)(jk:List AV)(tot:Int)(m:Mem)(t:Int)(i:Nat):St :=
 ⟨[.set 16 (i64 i),.set 15 (i64 S.H.length),.set 14 (.sl 100001 [] 0 S.H.length),.set 6 (.sl 5006 [] 0 (wl S.H t i).length),.set 4 (.ptr 4 []),.set 1 (i64 t),.set 0 (.ptr 100000 [])],[(100002,.mp (esN m.1) m.2),(100001,.grow sO (hs S.H++jk)),(100000,.fix shX (XB S q tot)),(4,.fix sO oV0),(5006,.grow sO (hs (wl S.H t i)))]⟩
theorem zz8 {d:Nat}{S:Sf}{q:Fl}{jk:List AV}(hq:FlOk S q){tot:Int}{m:Mem}{t:Int}(hH:S.H.length<=8192){i:Nat}(hi:i<S.H.length) :
  za1 [.slot 0,.slot 1,.slot 4,.own 6 5006 (.st [.sc,.sc,.sc,.sc]),.slot 14,.slot 15,.slot 16,.key 4] (evC gl (call gl tab d) L51 (S51B S q jk tot m t i))=some (S51B S q jk tot m t (i+1)):=by
 have hx:=zc7 hi
 have hmh:=hq.h.eq hi
 have hle:=zzv S.H t i
 have hlim:=zjc (show(wl S.H t i).length<=8192 by omega)
 have hx2:=fun jk=>qac hi jk
 have e1:((i+1:Nat):Int)=(i:Int)+1:=by omega
 by_cases h:(oat S.H i).tn=t
 . have e:((oat S.H i).tn==t)=true:=by simpa using h
   have e2:=zg9 (wl S.H t i) (oat S.H i)
   have e3:=ze2 (wl S.H t i)
   unfold S51B
   rw[wl_y h,wF]
   generalize wl S.H t i=W at *
   generalize oat S.H i=o at *
   simp(disch:=apply zq;omega) only[go_sem,simprocAttr,↓Nat.reduceEqDiff,xx,L51,m55,zaa,hx,hmh,e,e1,e2,e3,hlim,wJ,hx2]
 . have e:((oat S.H i).tn==t)=false:=by simpa using h
   unfold S51B
   rw[wl_n h]
   generalize wl S.H t i=W at *
   generalize oat S.H i=o at *
   simp(disch:=apply zq;omega) only[go_sem,simprocAttr,↓Nat.reduceEqDiff,xx,L51,m55,zaa,hx,hmh,e,e1,hx2]
theorem zvb (h:14<=n){S:Sf}{q:Fl}(hq:FlOk S q)(hH:S.H.length<=8192){t:Int}(hW:wl S.H t S.H.length=[]){tot:Int}{m:Mem} :
  call gl tab n 55 [.ptr 100000 [],i64 t] [(100000,.fix shX (XA S q tot)),(100001,.mp (esN m.1) m.2)] =
   some (.tup [oV0,.bool false],[(100000,.fix shX (XA S q tot)),(100001,.mp (esN m.1) m.2)],[]):=by
 obtain⟨d,rfl⟩:=wB h
 have hst:=fun i (hi:i<S.H.length)=>@zz9 gl (d+13) S q hq tot m t hH i hi
 simp only[L51,m55]at hst
 rw[zbl (fd:=fd55) rfl]
 simp(disch:=apply zq;omega) only[go_sem,simprocAttr,↓Nat.reduceEqDiff,xx,fd55,m55,zaa]
 rw[zaj (S51A S q tot m t) S.H.length (by unfold LF;omega)]
 . unfold S51A
   rw[hW]
   simp(disch:=apply zq;omega) only[go_sem,simprocAttr,↓Nat.reduceEqDiff,xx,zc6]
 . simp(disch:=apply zq;omega) only[go_sem,simprocAttr,↓Nat.reduceEqDiff,xx,S51A,wl,zc6]
 . exact hst
 . simp(disch:=apply zq;omega) only[go_sem,simprocAttr,↓Nat.reduceEqDiff,xx,S51A]
theorem z5e [Nonempty (H.GlK gl)](h:14<=n){S:Sf}{fh fl:Bool}{mh:Sh}(hk:KOk S)(hmh:Mk S.H mh sO)(hv:VSf S)(ht:Tn S.A)(hnm:∀i,i<S.H.length->(oat S.H i).nm.length<=5000){t:Int}{tot:Int}(htot:0<=tot/\tot<=2^60){m:Mem}(hm:MOk (cnt S) m.1)
  {W:List Ob} (hW:wl S.H t S.H.length=W) (hN:1<=W.length) {j k:Nat} (hj:j<S.H.length) (hjW:oat W (mst S W m (W.length-1)).1=oat S.H j) (hkl:k<S.A.length) (hkt:(aat S.A k).t=(oat S.H j).tn) :
  call gl tab n 55 [.ptr 100000 [],i64 t] [(100000,.fix shX (XA S ⟨false,fh,fl,sA,mh⟩ tot)),(100001,.mp (esN m.1) m.2)] =
   some (.tup [oV (oat S.H j),.bool true],[(100000,.fix shX (XR S (updA S.A k (-(oat S.H j).sz)) ⟨false,fh,fl,sA,mh⟩ (tot-(oat S.H j).sz) 20000 (S.H.length-1) 100001)),(100001,.mp (esN (mst S W m (W.length-1)).2.1) (mst S W m (W.length-1)).2.2)],[.grow sO (hs (S.H.eraseIdx j)++[oV0])]):=by
 obtain⟨d,rfl⟩:=wB h
 have hH:=hv.hn
 have hR:RL S.H:=fun i hi=>(hv.ho i hi).r
 have hst:=fun i (hi:i<S.H.length)=>@zz9 gl (d+13) S ⟨false,fh,fl,sA,mh⟩ ⟨.inr rfl,hmh⟩ tot m t (by omega) i hi
 simp only[L51,m55]at hst
 have hWl:W.length<=8192:=by rw[<-hW];have:=zzv S.H t S.H.length;omega
 have hWn:∀i,i<W.length->(oat W i).nm.length<=5000:=fun i hi=>by
  have:=zib hi
  generalize oat W i=x at *
  rw[<-hW,zqw]at this
  obtain⟨j',h1,_,rfl⟩:=this
  exact hnm j' h1
 have c1:=@qdb gl (d+13) _ (by omega) S ⟨false,fh,fl,sA,mh⟩ hk tot W hWn ⟨hN,hWl⟩ m hm
 rw[hjW]at c1
 have htn:I64 (oat S.H j).tn:=by rw[<-hkt];have:=ht k hkl;have:=zer hv.va hkl;exact⟨by omega,by omega⟩
 have hsz:0<=(oat S.H j).sz/\(oat S.H j).sz<=(aat S.A k).u:=by
  rw[hv.hu k hkl,hkt];have:=(hR j hj).sz;exact⟨by omega,zzz hR hj⟩
 have c2:=@z8s gl (d+13) (by omega) S fh fl mh hmh (by omega) (zd1 hv.ho) hv.va ht j k hj hkl hkt htn hsz tot htot (esN (mst S W m (W.length-1)).2.1) (mst S W m (W.length-1)).2.2
 generalize (mst S W m (W.length-1)).2=m2 at *
 generalize updA S.A k (-(oat S.H j).sz)=A2 at *
 generalize hs (S.H.eraseIdx j)=he at *
 generalize oat S.H j=o at *
 have hne:((W.length:Int)==0)=false:=by rw[beq_eq_false_iff_ne];omega
 rw[zbl (fd:=fd55) rfl]
 simp(disch:=apply zq;omega) only[go_sem,simprocAttr,↓Nat.reduceEqDiff,xx,fd55,m55,zaa]
 rw[zaj (S51A S ⟨false,fh,fl,sA,mh⟩ tot m t) S.H.length (by unfold LF;omega)]
 . unfold S51A
   rw[hW]
   simp(disch:=apply zq;omega) only[go_sem,simprocAttr,↓Nat.reduceEqDiff,xx,zc6,hne,c1,c2]
 . simp(disch:=apply zq;omega) only[go_sem,simprocAttr,↓Nat.reduceEqDiff,xx,S51A,wl,zc6]
 . exact hst
 . simp(disch:=apply zq;omega) only[go_sem,simprocAttr,↓Nat.reduceEqDiff,xx,S51A]
theorem zva (h:14<=n){S:Sf}{q:Fl}{jk:List AV}(hq:FlOk S q)(hH:S.H.length<=8192){t:Int}(hW:wl S.H t S.H.length=[]){tot:Int}{m:Mem} :
  call gl tab n 55 [.ptr 100000 [],i64 t] [(100000,.fix shX (XB S q tot)),(100001,.grow sO (hs S.H++jk)),(100002,.mp (esN m.1) m.2)] =
   some (.tup [oV0,.bool false],[(100000,.fix shX (XB S q tot)),(100001,.grow sO (hs S.H++jk)),(100002,.mp (esN m.1) m.2)],[]):=by
 obtain⟨d,rfl⟩:=wB h
 have hst:=fun i (hi:i<S.H.length)=>@zz8 gl (d+13) S q jk hq tot m t hH i hi
 simp only[L51,m55]at hst
 rw[zbl (fd:=fd55) rfl]
 simp(disch:=apply zq;omega) only[go_sem,simprocAttr,↓Nat.reduceEqDiff,xx,fd55,m55,zaa]
 rw[zaj (S51B S q jk tot m t) S.H.length (by unfold LF;omega)]
 . unfold S51B
   rw[hW]
   simp(disch:=apply zq;omega) only[go_sem,simprocAttr,↓Nat.reduceEqDiff,xx,zc6]
 . simp(disch:=apply zq;omega) only[go_sem,simprocAttr,↓Nat.reduceEqDiff,xx,S51B,wl,zc6]
 . exact hst
 . simp(disch:=apply zq;omega) only[go_sem,simprocAttr,↓Nat.reduceEqDiff,xx,S51B]
theorem z5d [Nonempty (H.GlK gl)](h:14<=n){S:Sf}{fh fl:Bool}{mh:Sh}{jk:List AV}(hk:KOk S)(hmh:Mk S.H mh sO)(hv:VSf S)(ht:Tn S.A)(hnm:∀i,i<S.H.length->(oat S.H i).nm.length<=5000){t:Int}{tot:Int}(htot:0<=tot/\tot<=2^60){m:Mem}(hm:MOk (cnt S) m.1)
  {W:List Ob} (hW:wl S.H t S.H.length=W) (hN:1<=W.length) {j k:Nat} (hj:j<S.H.length) (hjW:oat W (mst S W m (W.length-1)).1=oat S.H j) (hkl:k<S.A.length) (hkt:(aat S.A k).t=(oat S.H j).tn) :
  call gl tab n 55 [.ptr 100000 [],i64 t] [(100000,.fix shX (XB S ⟨false,fh,fl,sA,mh⟩ tot)),(100001,.grow sO (hs S.H++jk)),(100002,.mp (esN m.1) m.2)] =
   some (.tup [oV (oat S.H j),.bool true],[(100000,.fix shX (XR S (updA S.A k (-(oat S.H j).sz)) ⟨false,fh,fl,sA,mh⟩ (tot-(oat S.H j).sz) 20000 (S.H.length-1) 100002)),(100001,.grow sO (hs S.H++jk)),(100002,.mp (esN (mst S W m (W.length-1)).2.1) (mst S W m (W.length-1)).2.2)],[.grow sO (hs (S.H.eraseIdx j)++[oV0])]):=by
 obtain⟨d,rfl⟩:=wB h
 have hH:=hv.hn
 have hR:RL S.H:=fun i hi=>(hv.ho i hi).r
 have hst:=fun i (hi:i<S.H.length)=>@zz8 gl (d+13) S ⟨false,fh,fl,sA,mh⟩ jk ⟨.inr rfl,hmh⟩ tot m t (by omega) i hi
 simp only[L51,m55]at hst
 have hWl:W.length<=8192:=by rw[<-hW];have:=zzv S.H t S.H.length;omega
 have hWn:∀i,i<W.length->(oat W i).nm.length<=5000:=fun i hi=>by
  have:=zib hi
  generalize oat W i=x at *
  rw[<-hW,zqw]at this
  obtain⟨j',h1,_,rfl⟩:=this
  exact hnm j' h1
 have c1:=@qda gl (d+13) _ (by omega) S ⟨false,fh,fl,sA,mh⟩ jk hk tot W hWn ⟨hN,hWl⟩ m hm
 rw[hjW]at c1
 have htn:I64 (oat S.H j).tn:=by rw[<-hkt];have:=ht k hkl;have:=zer hv.va hkl;exact⟨by omega,by omega⟩
 have hsz:0<=(oat S.H j).sz/\(oat S.H j).sz<=(aat S.A k).u:=by
  rw[hv.hu k hkl,hkt];have:=(hR j hj).sz;exact⟨by omega,zzz hR hj⟩
 have c2:=@z8r gl (d+13) (by omega) S fh fl mh jk hmh (by omega) (zd1 hv.ho) hv.va ht j k hj hkl hkt htn hsz tot htot (esN (mst S W m (W.length-1)).2.1) (mst S W m (W.length-1)).2.2
 generalize (mst S W m (W.length-1)).2=m2 at *
 generalize updA S.A k (-(oat S.H j).sz)=A2 at *
 generalize hs (S.H.eraseIdx j)=he at *
 generalize oat S.H j=o at *
 have hne:((W.length:Int)==0)=false:=by rw[beq_eq_false_iff_ne];omega
 rw[zbl (fd:=fd55) rfl]
 simp(disch:=apply zq;omega) only[go_sem,simprocAttr,↓Nat.reduceEqDiff,xx,fd55,m55,zaa]
 rw[zaj (S51B S ⟨false,fh,fl,sA,mh⟩ jk tot m t) S.H.length (by unfold LF;omega)]
 . unfold S51B
   rw[hW]
   simp(disch:=apply zq;omega) only[go_sem,simprocAttr,↓Nat.reduceEqDiff,xx,zc6,hne,c1,c2]
 . simp(disch:=apply zq;omega) only[go_sem,simprocAttr,↓Nat.reduceEqDiff,xx,S51B,wl,zc6]
 . exact hst
 . simp(disch:=apply zq;omega) only[go_sem,simprocAttr,↓Nat.reduceEqDiff,xx,S51B]
end Go.Proofs.S97
