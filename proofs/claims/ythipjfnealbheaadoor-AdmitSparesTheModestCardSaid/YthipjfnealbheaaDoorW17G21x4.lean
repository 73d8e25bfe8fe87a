/-
  Chapter 17: an object dropped. No condition.
-/
import Derived.Test.YthipjfnealbheaaDoorW17G20x4
import Derived.Test.YthipjfnealbheaaDoorW17G19x4
set_option linter.all false
open Nat renaming exists_eq_add_of_le'->wB,lt_trichotomy->wC,le_refl->wD
open List renaming length_eraseIdx->wE,getD_eq_getElem?_getD->wF,getElem?_eq_getElem->wG,length_append->wH,length_drop->wJ
namespace Go.Proofs.S17
open Go Go.Ev Go.Proofs Go.Proofs.S17.Q
variable {gl :Gl} {n:Nat}
theorem z7r (h:1<=n){l:List Ob}{k:Nat}(hk:k<l.length)(hl:l.length<=8192) :
  call gl tab n 59 [.sl 100000 [] 0 l.length,i64 k,i64 ((k:Int)+1)] [(100000,.grow sO (hs l))]=some (.sl 100000 [] 0 (l.length-1),[(100000,.grow sO (hs (l.eraseIdx k)++[.agg [.str [],i64 0,i64 0,i64 0]]))],[]):=by
 obtain⟨d,rfl⟩:=wB h
 have e1:((k:Int)==(k:Int)+1)=false:=by rw[beq_eq_false_iff_ne];omega
 have e2:List.take (l.length-(k+1)) (List.drop (k+1) (hs l))=hs (l.drop (k+1)):=by
  rw[List.take_of_length_le (by simp[zaa])];simp[hs]
 have e3:(hs (l.drop (k+1))).length=l.length-(k+1):=by rw[zaa,wJ]
 have e5:decide (k+(l.length-(k+1))<=l.length)=true:=decide_eq_true (by omega)
 have e6:k+(l.length-(k+1))=l.length-1:=by omega
 have e7:List.take k (hs l)=hs (l.take k):=by simp[hs,List.map_take]
 have e8:List.drop (l.length-1) (hs l)=hs (l.drop (l.length-1)):=by simp[hs]
 have e9:(hs (l.take k)).length=k:=by rw[zaa,List.length_take];omega
 have e10:(hs (l.drop (l.length-1))).length=1:=by rw[zaa,wJ];omega
 have e11:hs (l.take k)++hs (l.drop (k+1))=hs (l.eraseIdx k):=by rw[List.eraseIdx_eq_take_drop_succ];simp[hs]
 have e12:(hs (l.eraseIdx k)).length=l.length-1:=by rw[zaa,wE,if_pos hk]
 have e14:(l.eraseIdx k).length=l.length-1:=by rw[wE,if_pos hk]
 have e13:l.length-(l.length-1)=1:=by omega
 rw[zbe (fd:=fd59) rfl]
 simp(disch:=apply zq;omega) only[go_sem,simprocAttr,↓Nat.reduceEqDiff,xx,fd59,m59,zaa,e1,e2,e3,Nat.sub_zero,false_and,decide_false,e5,e6,e7,e8,e9,e10,e11,e13,e14,wH]
 rw[List.take_append_of_le_length (by omega),<-e12,List.take_length,e12,List.drop_of_length_le (by simp only[wH,e12,e10];omega)]
 simp only[List.append_nil]
theorem zfj :∀(l:List Ob),zc2 (hs l)=true
 | []=>rfl
 | o::l=>by
   show(zcx (oV o)&&zc2 (hs l))=true
   rw[zfj l];rfl
theorem zws (l:List Ob)(jk:List AV):(hs l++jk).take l.length=hs l:=by rw[<-zaa,List.take_left]
theorem zl6 (h:1<=n){f:Bool}{l:List Ob}(hl:l.length<=8192):call gl tab n 40 [.lst f sO (hs l)] []=some (.sl 20000 [] 0 l.length,[],[.grow sO (hs l)]):=by
 obtain⟨d,rfl⟩:=wB h
 have hn:=zfj l
 rw[zgb (fd:=fd40) rfl rfl]
 have h1:l.length<=LIM:=by unfold LIM;omega
 simp[zio,zaa,h1,Sh.beq,Sh.beqs]
abbrev XR (S:Sf)(A:List A3)(q:Fl)(tot:Int)(kh nh km:Nat):AV:=.aggR [.aggR [i64 S.c,.lst false sA (ac A),.sl kh [] 0 nh,skV S q],i64 tot,.mp km]
theorem z59 (h:7<=n){S:Sf}{fh fl:Bool}{mh:Sh}(hmh:Mk S.H mh sO)(hH:S.H.length<=8192)(hS:Srt S.H)(hv:VA S.A)(ht:Tn S.A){j k:Nat}(hj:j<S.H.length)(hk:k<S.A.length)(hkq:(aat S.A k).t=(oat S.H j).tn)(hq:I64 (oat S.H j).tn)(hsz:0<=(oat S.H j).sz/\(oat S.H j).sz<=(aat S.A k).u){tot:Int}(htot:0<=tot/\tot<=2^60){es:List (AV×AV×Nat)}{c:Nat} :
  call gl tab n 43 [.ptr 100000 [],oV (oat S.H j)] [(100000,.fix shX (XA S ⟨false,fh,fl,sA,mh⟩ tot)),(100001,.mp es c)] =
   some (.tup [],[(100000,.fix shX (XR S (updA S.A k (-(oat S.H j).sz)) ⟨false,fh,fl,sA,mh⟩ (tot-(oat S.H j).sz) 20000 (S.H.length-1) 100001)),(100001,.mp es c)],[.grow sO (hs (S.H.eraseIdx j)++[oV0])]):=by
 obtain⟨d,rfl⟩:=wB h
 have hne:=hmh.eq hj
 subst hne
 obtain⟨j',hp,c1⟩:=@zhv gl (d+6) (by omega) fh sO S.H (.inr rfl) hH hS (oat S.H j).nm
 have hjj:j=j':=by
  rcases wC j j' with h3|h3|h3
  . have:=hp.lo j h3;rw[Bl.irrefl]at this;cases this
  . exact h3
  . have:=hp.hi j' (wD _) (by omega);rw[hS j' j h3 hj]at this;cases this
 subst hjj
 have c2:=fun f=>@zl6 gl (d+6) (by omega) f S.H hH
 have c3:=@z7r gl (d+6) (by omega) S.H j hj hH
 have hu:=hv.ok k hk
 have he:uerr S.A k (-(oat S.H j).sz) true=0:=by rw[uerr,if_pos rfl,if_neg];have:=hu.u;omega
 have c4:=@zrx gl (d+6) (by omega) S.A hv ht (oat S.H j).tn (-(oat S.H j).sz) hq k hk hkq he
 have hu:=hu.u
 have hn:=zfj S.H
 have htk:=fun jk=>zws S.H jk
 generalize isAt S.H (oat S.H j).nm j=bj at *
 generalize oat S.H j=o at *
 rw[zbe (fd:=fd43) rfl]
 simp(disch:=apply zq;omega) only[go_sem,simprocAttr,↓Nat.reduceEqDiff,xx,fd43,m43,c1,c2,c3,c4,hn,zaa,Int.zero_sub,htk]
theorem z58 (h:7<=n){S:Sf}{fh fl:Bool}{mh:Sh}{jk:List AV}(hmh:Mk S.H mh sO)(hH:S.H.length<=8192)(hS:Srt S.H)(hv:VA S.A)(ht:Tn S.A){j k:Nat}(hj:j<S.H.length)(hk:k<S.A.length)(hkq:(aat S.A k).t=(oat S.H j).tn)(hq:I64 (oat S.H j).tn)(hsz:0<=(oat S.H j).sz/\(oat S.H j).sz<=(aat S.A k).u){tot:Int}(htot:0<=tot/\tot<=2^60){es:List (AV×AV×Nat)}{c:Nat} :
  call gl tab n 43 [.ptr 100000 [],oV (oat S.H j)] [(100000,.fix shX (XB S ⟨false,fh,fl,sA,mh⟩ tot)),(100001,.grow sO (hs S.H++jk)),(100002,.mp es c)] =
   some (.tup [],[(100000,.fix shX (XR S (updA S.A k (-(oat S.H j).sz)) ⟨false,fh,fl,sA,mh⟩ (tot-(oat S.H j).sz) 20000 (S.H.length-1) 100002)),(100001,.grow sO (hs S.H++jk)),(100002,.mp es c)],[.grow sO (hs (S.H.eraseIdx j)++[oV0])]):=by
 obtain⟨d,rfl⟩:=wB h
 have hne:=hmh.eq hj
 subst hne
 obtain⟨j',hp,c1⟩:=@zhv gl (d+6) (by omega) false sO S.H (.inr rfl) hH hS (oat S.H j).nm
 have hjj:j=j':=by
  rcases wC j j' with h3|h3|h3
  . have:=hp.lo j h3;rw[Bl.irrefl]at this;cases this
  . exact h3
  . have:=hp.hi j' (wD _) (by omega);rw[hS j' j h3 hj]at this;cases this
 subst hjj
 have c2:=fun f=>@zl6 gl (d+6) (by omega) f S.H hH
 have c3:=@z7r gl (d+6) (by omega) S.H j hj hH
 have hu:=hv.ok k hk
 have he:uerr S.A k (-(oat S.H j).sz) true=0:=by rw[uerr,if_pos rfl,if_neg];have:=hu.u;omega
 have c4:=@zrx gl (d+6) (by omega) S.A hv ht (oat S.H j).tn (-(oat S.H j).sz) hq k hk hkq he
 have hu:=hu.u
 have hn:=zfj S.H
 have htk:=fun jk=>zws S.H jk
 generalize isAt S.H (oat S.H j).nm j=bj at *
 generalize oat S.H j=o at *
 rw[zbe (fd:=fd43) rfl]
 simp(disch:=apply zq;omega) only[go_sem,simprocAttr,↓Nat.reduceEqDiff,xx,fd43,m43,c1,c2,c3,c4,hn,zaa,Int.zero_sub,htk]
end Go.Proofs.S17
namespace Go.Proofs.S17
open Go Go.Ev Go.Proofs Go.Proofs.S17.Q
theorem zmt (x:Ob)(l:List Ob)(i:Nat):oat (x::l) (i+1)=oat l i:=by simp[oat]
theorem zwe (x:Ob)(l:List Ob):oat (x::l) 0=x:=rfl
theorem zff {l:List Ob}{j:Nat}(hj:j<l.length)(i:Nat):oat (l.eraseIdx j) i=if i<j then oat l i else oat l (i+1):=by
 unfold oat
 simp only[wF,List.getElem?_eraseIdx]
 split<;>rfl
theorem zee {S:Sf}(h:∀i,i<S.H.length->HOk S i):Srt S.H:=by
 intro i j
 induction j with
 | zero=>intro h1;omega
 | succ j ih =>
   intro h1 h2
   have h3:=(h (j+1) h2).o (by omega)
   rw[show j+1-1=j by omega]at h3
   by_cases e:i=j
   . rw[e];exact h3
   . exact Bl.trans (ih (by omega) (by omega)) h3
theorem zyo {l:List Ob}(h:Srt l){j:Nat}(hj:j<l.length):Srt (l.eraseIdx j):=by
 intro a b hab hb
 rw[wE,if_pos hj]at hb
 rw[zff hj,zff hj]
 split<;>split
 . exact h a b hab (by omega)
 . exact h a (b+1) (by omega) (by omega)
 . omega
 . exact h (a+1) (b+1) (by omega) (by omega)
def usL (t:Int):List Ob->Int
 | []=>0
 | x::l=>(if x.tn=t then x.sz else 0)+usL t l
theorem ztt (x:Ob)(l:List Ob)(t:Int):∀i,usd (x::l) t (i+1)=(if x.tn=t then x.sz else 0)+usd l t i
 | 0=>by simp[usd,oat]
 | i+1=>by
   rw[usd,ztt x l t i,zmt,usd];omega
theorem zis (t:Int):∀l:List Ob,usd l t l.length=usL t l
 | []=>rfl
 | x::l=>by rw[List.length_cons,ztt,zis t l,usL]
theorem zpx (t:Int):∀{l:List Ob} {j:Nat},j<l.length->usL t (l.eraseIdx j)=usL t l-if(oat l j).tn=t then(oat l j).sz else 0
 | [],_,h=>by simp at h
 | x::l,0,_=>by rw[List.eraseIdx_cons_zero,usL,zwe];omega
 | x::l,j+1,h=>by
   rw[List.eraseIdx_cons_succ,usL,usL,zpx t (by simpa using h),zmt];omega
theorem zpw {l:List Ob}{j:Nat}(hj:j<l.length)(t:Int):usd (l.eraseIdx j) t (l.length-1)=usd l t l.length-if(oat l j).tn=t then(oat l j).sz else 0:=by
 have e:(l.eraseIdx j).length=l.length-1:=by rw[wE,if_pos hj]
 rw[<-e,zis,zis,zpx t hj]
theorem z60 {t:Int}:∀{l:List Ob},(∀x∈l,1<=x.sz)->0<=usL t l
 | [],_=>Int.le_refl _
 | x::l,h=>by
   have:=z60 (t:=t) (l:=l) fun y hy=>h y (by simp[hy])
   have:=h x (by simp)
   rw[usL];split<;>omega
theorem ze4 {l:List Ob}{i:Nat}(h:i<l.length):oat l i∈l:=by
 unfold oat
 rw[wF,wG h];exact List.getElem_mem h
theorem zhq {l:List Ob}{x:Ob}(h:x∈l):∃i,i<l.length/\oat l i=x:=by
 obtain⟨i,hi,e⟩:=List.getElem_of_mem h
 exact⟨i,hi,by unfold oat;rw[wF,wG hi];exact e⟩
theorem zya {l:List Ob}(hr:RL l){j:Nat}(hj:j<l.length):(oat l j).sz<=usd l (oat l j).tn l.length:=by
 have h1:=zpw hj (oat l j).tn
 rw[if_pos rfl]at h1
 have e:(l.eraseIdx j).length=l.length-1:=by rw[wE,if_pos hj]
 rw[<-e,zis]at h1
 have h2:=z60 (t:=(oat l j).tn) (l:=l.eraseIdx j) fun x hx=>by
  obtain⟨i,hi,rfl⟩:=zhq (List.mem_of_mem_eraseIdx hx)
  exact(hr i hi).sz.1
 omega
theorem zkc {l:List A3}{k:Nat}(hk:k<l.length)(v:Int):∀i,sumU (updA l k v) i=sumU l i+if k<i then v else 0
 | 0=>by simp[sumU]
 | i+1=>by
   rw[sumU,zkc hk v i,sumU,zey hk]
   by_cases h:i=k
   . subst h;rw[if_pos rfl,if_neg (Nat.lt_irrefl _),if_pos (by omega)];simp only;omega
   . rw[if_neg h]
     by_cases h2:k<i
     . rw[if_pos h2,if_pos (by omega)];omega
     . rw[if_neg h2,if_neg (by omega)];omega
theorem zkr {l:List A3}{k:Nat}(hk:k<l.length)(v:Int)(i:Nat):(aat (updA l k v) i).t=(aat l i).t:=by
 rw[zey hk]
 split
 . rename_i e;rw[e]
 . rfl
def drp (S:Sf)(j k:Nat):Sf:=⟨S.c,updA S.A k (-(oat S.H j).sz),S.H.eraseIdx j,S.w,S.s,S.a,S.L⟩
theorem z14 {S:Sf}(hv:VSf S){j k:Nat}(hj:j<S.H.length)(hk:k<S.A.length)(hkt:(aat S.A k).t=(oat S.H j).tn):VSf (drp S j k):=by
 have hR:RL S.H:=fun i hi=>(hv.ho i hi).r
 have hlen:(S.H.eraseIdx j).length=S.H.length-1:=by rw[wE,if_pos hj]
 have hu:=hv.hu k hk
 have hge:=zya hR hj
 rw[<-hkt,<-hu]at hge
 have hsz:=(hR j hj).sz
 have hkv:=hv.va.ok k hk
 have he:uerr S.A k (-(oat S.H j).sz) true=0:=by rw[uerr,if_pos rfl,if_neg];have:=hkv.u;omega
 have hsrt:=zyo (zee hv.ho) hj
 refine⟨hv.c,zmi hv.va hk he,hv.vk,?_,?_,?_,?_⟩
 . show(S.H.eraseIdx j).length<=4096
   have:=hv.hn;omega
 . intro i hi
   have hi':i<S.H.length-1:=by rw[<-hlen];exact hi
   refine⟨?_,fun h0=>hsrt (i-1) i (by omega) hi,?_⟩
   . show ROk (oat (S.H.eraseIdx j) i)
     rw[zff hj]
     split
     . exact hR i (by omega)
     . exact hR (i+1) (by omega)
   . have:∃k',k'<S.A.length/\(aat S.A k').t=(oat (S.H.eraseIdx j) i).tn:=by
      rw[zff hj]
      split
      . exact(hv.ho i (by omega)).t
      . exact(hv.ho (i+1) (by omega)).t
     obtain⟨k',hk',e⟩:=this
     exact⟨k',by show k'<(updA _ _ _).length;rw[za4];exact hk',by show(aat (updA _ _ _) k').t=_;rw[zkr hk];exact e⟩
 . intro k' hk'
   have hk2:k'<S.A.length:=by have:k'<(updA S.A k (-(oat S.H j).sz)).length:=hk';rwa [za4]at this
   show(aat (updA S.A k (-(oat S.H j).sz)) k').u=usd (S.H.eraseIdx j) (aat (updA S.A k (-(oat S.H j).sz)) k').t (S.H.eraseIdx j).length
   rw[hlen,zkr hk,zpw hj,zey hk]
   by_cases e:k'=k
   . subst e
     rw[if_pos rfl,if_pos hkt.symm]
     simp only
     rw[hu];omega
   . rw[if_neg e,if_neg,hv.hu k' hk2]
     . omega
     . intro h
       exact e (ziu hv.va hk2 hk (h.symm.trans hkt.symm))
 . show sumU (updA S.A k (-(oat S.H j).sz)) (updA S.A k (-(oat S.H j).sz)).length<=S.c
   rw[za4,zkc hk,if_pos hk]
   have:=hv.ht;omega
theorem qfz {S:Sf}(h:Tn S.A){j k:Nat}(hk:k<S.A.length):Tn (drp S j k).A:=fun i hi=>by
 show(aat (updA _ _ _) i).t<=_
 rw[zkr hk]
 refine h i ?_
 have:i<(updA S.A k (-(oat S.H j).sz)).length:=hi
 rwa [za4]at this
end Go.Proofs.S17
