/-
  Chapter 16: the range over what is in excess. No condition.
-/
import Derived.Test.YthipjfnealbheaaGreatDoorW97G2x4
set_option linter.all false
open Nat renaming exists_eq_add_of_le'->wB
namespace Go.Proofs.S97.Q
open Go Go.Ev Go.Proofs
variable {gl :Gl} {n:Nat}
def bst (l:List A3)(g:List Int)(k:Nat):Nat->Int×Int
 | 0=>(0,0)
 | i+1=>if i≠k/\(bst l g k i).2<(aat l i).u-nat g i then((aat l i).t,(aat l i).u-nat g i)else bst l g k i
theorem z9p (l:List A3)(g:List Int)(k:Nat):∀i,0<=(bst l g k i).2
 | 0=>Int.le_refl _
 | i+1=>by
   have:=z9p l g k i
   rw[bst];split
   . simp only;omega
   . exact this
def L50 :MC:=match m99 with| .seq _ (.block _ (.loop _ b))=>b|_=>.skip
def S50 (l:List A3)(g:List Int)(k N:Nat)(o:Int×Int)(i:Nat):St :=
 ⟨[.set 9 (i64 i),.set 8 (i64 l.length),.set 7 (.lst false sA (ac l)),.set 3 (.ptr 100005 []),.set 2 (.ptr 100004 []),.set 0 (.yld 100000)],
   [(100006,.grow .sc (ns g)),(100005,.fix .sc (.sl 100006 [] 0 N)),(100004,.fix .sc (i64 k)),(100003,.fix .sc (.lst false sA (ac l))),(100002,.fix .sc (i64 o.2)),(100001,.fix .sc (i64 o.1)),(100000,.lp 540 [.ptr 100001 [],.ptr 100002 []] .ready)]⟩
theorem round_at (h:1<=n)(a b t x:Int):call gl tab n 1000540 [i64 t,i64 x] [(100000,.lp 540 [.ptr 100001 [],.ptr 100002 []] .ready),(100001,.fix .sc (i64 a)),(100002,.fix .sc (i64 b))] =
  some (.bool true,[(100000,.lp 540 [.ptr 100001 [],.ptr 100002 []] .ready),(100001,.fix .sc (i64 (if b<x then t else a))),(100002,.fix .sc (i64 (if b<x then x else b)))],[]):=by
 obtain⟨d,rfl⟩:=wB h
 rw[zei (fd:=zry) rfl rfl]
 by_cases hb:b<x
 . simp(disch:=apply zq;omega) only[go_sem,simprocAttr,↓Nat.reduceEqDiff,xx,zry,z55,z53]
 . simp(disch:=apply zq;omega) only[go_sem,simprocAttr,↓Nat.reduceEqDiff,xx,zry,z55,z53]
set_option maxHeartbeats 2000000 in
theorem qfc {d:Nat}{l:List A3}{g:List Int}{k i:Nat}(hv:VA l)(hgl:g.length=l.length)(hi:i<l.length)(hg:0<=nat g i/\nat g i<=1099511627776) :
  zba [.slot 0,.slot 2,.slot 3,.slot 7,.slot 8,.slot 9] (evC gl (call gl tab (d+1)) L50 (S50 l g k l.length (bst l g k i) i))=some (S50 l g k l.length (bst l g k (i+1)) (i+1)):=by
 have hn:=hv.n
 have hx:=zej hi
 have hu:=(hv.ok i hi).u
 have hy:=ns_at (show i<g.length by omega)
 by_cases hk:i=k
 . subst hk
   have e:bst l g i (i+1)=bst l g i i:=by rw[bst,if_neg (by omega)]
   simp(disch:=apply zq;omega) only[go_sem,simprocAttr,↓Nat.reduceEqDiff,xx,L50,m99,S50,hx,zad,e]
 . have h1:((i:Int)==k)=false:=by rw[beq_eq_false_iff_ne];omega
   by_cases h2:nat g i<(aat l i).u
   . have c290:=@round_at gl (d+1) (by omega) (bst l g k i).1 (bst l g k i).2 (aat l i).t ((aat l i).u-nat g i)
     have e:bst l g k (i+1)=(if(bst l g k i).2<(aat l i).u-nat g i then(aat l i).t else(bst l g k i).1,if(bst l g k i).2<(aat l i).u-nat g i then(aat l i).u-nat g i else(bst l g k i).2):=by
      rw[bst]
      by_cases h3:(bst l g k i).2<(aat l i).u-nat g i
      . rw[if_pos ⟨hk,h3⟩,if_pos h3,if_pos h3]
      . rw[if_neg (fun h=>h3 h.2),if_neg h3,if_neg h3]
     rw[e]
     generalize bst l g k i=o at *
     simp(disch:=apply zq;omega) only[go_sem,simprocAttr,↓Nat.reduceEqDiff,xx,L50,m99,S50,hx,zad,h1,hy,ns_length,hgl,c290]
   . have e:bst l g k (i+1)=bst l g k i:=by
      rw[bst,if_neg];intro h
      have:=z9p l g k i
      omega
     rw[e]
     generalize bst l g k i=o at *
     simp(disch:=apply zq;omega) only[go_sem,simprocAttr,↓Nat.reduceEqDiff,xx,L50,m99,S50,hx,zad,h1,hy,ns_length,hgl]
theorem z28 (h:1<=n){l:List A3}{g:List Int}{k N:Nat} :
  call gl tab n 79 [.lst false sA (ac l),.sl 100000 [] 0 N,i64 k] [(100000,.grow .sc (ns g))]=some (.fn 99 [.ptr 20000 [],.ptr 20001 [],.ptr 20002 []],[(100000,.grow .sc (ns g))],[.fix .sc (.lst false sA (ac l)),.fix .sc (i64 k),.fix .sc (.sl 100000 [] 0 N)]):=by
 obtain⟨d,rfl⟩:=wB h
 rw[za5 (fd:=fd79) rfl]
 simp(disch:=apply zq;omega) only[go_sem,simprocAttr,↓Nat.reduceEqDiff,xx,fd79,m79]
theorem zyk (h:2<=n){l:List A3}{g:List Int}{k:Nat}(hv:VA l)(hgl:g.length=l.length)(hg:∀i,i<l.length->0<=nat g i/\nat g i<=1099511627776) :
  call gl tab n 99 [.yld 100000,.ptr 100003 [],.ptr 100004 [],.ptr 100005 []]
   [(100000,.lp 540 [.ptr 100001 [],.ptr 100002 []] .ready),(100001,.fix .sc (i64 0)),(100002,.fix .sc (i64 0)),(100003,.fix .sc (.lst false sA (ac l))),(100004,.fix .sc (i64 k)),(100005,.fix .sc (.sl 100006 [] 0 l.length)),(100006,.grow .sc (ns g))] =
  some (.tup [],[(100000,.lp 540 [.ptr 100001 [],.ptr 100002 []] .ready),(100001,.fix .sc (i64 (bst l g k l.length).1)),(100002,.fix .sc (i64 (bst l g k l.length).2)),(100003,.fix .sc (.lst false sA (ac l))),(100004,.fix .sc (i64 k)),(100005,.fix .sc (.sl 100006 [] 0 l.length)),(100006,.grow .sc (ns g))],[]):=by
 obtain⟨d,rfl⟩:=wB h
 have hn:=hv.n
 have hs:=fun i hi=>@qfc gl d l g k i hv hgl hi (hg i hi)
 simp only[L50,m99]at hs
 rw[za5 (fd:=fd99) rfl]
 simp(disch:=apply zq;omega) only[go_sem,simprocAttr,↓Nat.reduceEqDiff,xx,fd99,m99,zad]
 rw[zaj (fun i=>S50 l g k l.length (bst l g k i) i) l.length (by unfold LF;omega)]
 . simp(disch:=apply zq;omega) only[go_sem,simprocAttr,↓Nat.reduceEqDiff,xx,S50,zad]
 . simp(disch:=apply zq;omega) only[go_sem,simprocAttr,↓Nat.reduceEqDiff,xx,S50,zad,bst]
 . exact hs
 . simp(disch:=apply zq;omega) only[go_sem,simprocAttr,↓Nat.reduceEqDiff,xx,S50,zad]
end Go.Proofs.S97.Q
namespace Go.Proofs.S97.Q
open Go Go.Ev Go.Proofs
variable {gl :Gl} {n:Nat}
theorem ns_noImms :∀(l:List Int),zcy (ns l)=true
 | []=>rfl
 | x::l=>by
   have:=ns_noImms l
   rw[ns,List.map_cons,zcy,<-ns,this];rfl
def L29 :MC:=match m54 with| .seq _ (.seq _ (.seq _ (.seq _ (.seq (.seq _ (.block _ (.loop _ b))) _))))=>b|_=>.skip
def S29 (l:List A3)(k:Nat)(c v:Int)(i:Nat):St :=
 ⟨[.set 45 (i64 i),.set 44 (i64 l.length),.set 43 (.lst false sA (ac l)),.set 12 (.sl 5012 [] 0 i),.set 10 (i64 k),.set 3 (i64 v),.set 1 (.lst false sA (ac l)),.set 0 (i64 c)],[(5012,.grow sS (sh ((shA l).take i)))]⟩
theorem qjb {d:Nat}{l:List A3}(hv:VA l)(k:Nat)(c v:Int):∀i,i<l.length->zba [.slot 0,.slot 1,.slot 3,.slot 10,.own 12 5012 (.st [.sc,.sc]),.slot 43,.slot 44,.slot 45] (evC gl (call gl tab d) L29 (S29 l k c v i))=some (S29 l k c v (i+1)):=fun i hi=>by
 have hn:=hv.n
 have hx:=zej hi
 have hw:=@zds l
 have hlen:((shA l).take i).length=i:=by rw[List.length_take,hw];omega
 have htk:=fun x=>qa9 ((shA l).take i) x
 rw[hlen]at htk
 have hlim:i+1<=LIM:=by unfold LIM;omega
 have et:=z4r (show i<(shA l).length by omega)
 rw[zsu hi]at et
 simp(disch:=apply zq;omega) only[go_sem,simprocAttr,↓Nat.reduceEqDiff,xx,L29,m54,S29,zad,hx,zbv,hlen,hlim,et,qft,htk]
theorem qc9 {l:List S2}(hv:VS l){c m:Int}(hq:Lv l c m){i:Nat}(hi:i<l.length):0<=nat (gets l m c l.length) i/\nat (gets l m c l.length) i<=1099511627776:=by
 have h0:=hq.lo;have h00:=hq.hi
 rw[z2z l m c hi]
 have h1:=z1m hv hq (show i<=l.length by omega)
 have h2:=zsf (hv.ok i hi) (show 0<=m/\m<=1099511627777 by omega)
 have h3:=z03 (hv.ok i hi) (show 0<=m/\m<=1099511627777 by omega) h1.1
 have h4:=(hv.ok i hi).x
 unfold get1;omega
set_option maxHeartbeats 2000000 in
theorem zws (h:12<=n){l:List A3}(hv:VA l){q c v:Int}{k:Nat}(hc:0<=c/\c<=1099511627776)(hvv:0<=v/\v<=1099511627776)(hk:k<l.length){m:Int}(hm:Lv (wnt l k v) c m)
  (ht:c<sumU l l.length+v) (c40:call gl tab (n-1) 62 [.lst false sA (ac l),i64 q] []=some (.tup [i64 k,.bool true],[],[])) :
  call gl tab n 54 [i64 c,.lst false sA (ac l),i64 q,i64 v] []=some (if nat (gets (wnt l k v) m c l.length) k<(aat l k).u+v then .tup [i64 0,i64 160]else .tup [i64 (bst l (gets (wnt l k v) m c l.length) k l.length).1,i64 0],[],[]):=by
 obtain⟨d,rfl⟩:=wB h
 rw[show d+12-1=d+11 from rfl]at c40
 have hn:=hv.n
 have hu:=(hv.ok k hk).u
 have hs:=zdd hv (Nat.le_refl l.length)
 have c27:=@zom gl (d+11) (by omega) false sA l (.inr rfl) hv
 have hvl:=@qjb gl (d+11) l hv k c v
 have hx:=zej hk
 have hws:=zih hv (k:=k) hvv
 have c16:=@qdf gl (d+11) (by omega) false sS (wnt l k v) (.inr rfl) hws c hc m hm
 have hsx:=qba (show k<(shA l).length by rw[zds];exact hk)
 rw[zsu hk]at hsx
 have e2:(if(aat l k).u+v<1099511627776 then(aat l k).u+v else 1099511627776)=mn 1099511627776 ((aat l k).u+v):=rfl
 have hset:(sh (shA l)).set k (.agg [i64 (aat l k).w,i64 (mn 1099511627776 ((aat l k).u+v))])=sh (wnt l k v):=by simp[sh,wnt,List.map_set]
 have htk:=z40 (wnt l k v)
 have hgb:=fun i hi=>@qc9 (wnt l k v) hws c m hm i hi
 rw[zfj]at htk c16 hgb
 have hgl:=zch (wnt l k v) m c l.length
 have hgx:=ns_at (show k<(gets (wnt l k v) m c l.length).length by rw[hgl];exact hk)
 have ht2:(shA l).take l.length=shA l:=by rw[<-zds l];exact List.take_length
 have c44:=@z28 gl (d+11) (by omega) l (gets (wnt l k v) m c l.length) k l.length
 have c50:=@zyk gl (d+11) (by omega) l (gets (wnt l k v) m c l.length) k hv hgl hgb
 have him:=ns_noImms (gets (wnt l k v) m c l.length)
 generalize gets (wnt l k v) m c l.length=g at *
 have h0:=hgb k hk
 simp only[L29,m54]at hvl
 rw[zaf (fd:=fd54) rfl]
 simp(disch:=apply zq;omega) only[go_sem,simprocAttr,↓Nat.reduceEqDiff,xx,fd54,m54,zad,c40,c27]
 rw[zaj (S29 l k c v) l.length (by unfold LF;omega)]
 . by_cases hg:nat g k<(aat l k).u+v
   . simp(disch:=apply zq;omega) only[go_sem,simprocAttr,↓Nat.reduceEqDiff,xx,S29,zad,hx,ht2,zbv,zds,hsx,zi7,zo9,gt_iff_lt,e2,hset,htk,zfj,c16,ns_length,hgl,hgx,him,hg]
   . simp(disch:=apply zq;omega) only[go_sem,simprocAttr,↓Nat.reduceEqDiff,xx,S29,zad,hx,ht2,zbv,zds,hsx,zi7,zo9,gt_iff_lt,e2,hset,htk,zfj,c16,ns_length,hgl,hgx,him,hg]
     simp(maxSteps:=1000000) (disch:=apply zq;omega) only[go_sem,simprocAttr,↓Nat.reduceEqDiff,xx,c44,zad,ns_length,hgl,c50]
 . simp(disch:=apply zq;omega) only[go_sem,simprocAttr,↓Nat.reduceEqDiff,xx,S29,zad,List.take_zero,qfs]
 . exact hvl
 . simp(disch:=apply zq;omega) only[go_sem,simprocAttr,↓Nat.reduceEqDiff,xx,S29,zad]
end Go.Proofs.S97.Q
namespace Go.Proofs.S97.Q
open Go Go.Ev Go.Proofs
variable {gl :Gl} {n:Nat}
def S30 (l:List A3)(g:List Int)(k:Nat)(o:Int×Int)(i:Nat):St :=
 ⟨[.set 13 (i64 i),.set 12 (i64 o.2),.set 11 (.ptr 11 []),.set 10 (.lst false .sc (ns g)),.set 9 (i64 k),.set 8 (.ptr 8 []),.set 1 (.lst false sA (ac l))],
   [(11,.fix sS (.agg [i64 o.1,i64 0])),(8,.fix sS (.agg [i64 0,i64 0]))]⟩
end Go.Proofs.S97.Q
namespace Go.Proofs.S97.Q
open Go Go.Ev Go.Proofs
variable {gl :Gl} {n:Nat}
section
variable {l :List S2} {g:List Int}
end
section
variable {l :List S2} {g:List Int} {f f':Bool} {k k':Sh} {c:Int} (hm:Mk l k sS) (hm':Mk g k' .sc) (hv:VS l) (hlen:g.length=l.length)
include hm hm' hv hlen
end
section
variable {l :List S2} {g:List Int} {f f':Bool} {k k':Sh} {c:Int} (hm:Mk l k sS) (hm':Mk g k' .sc) (hv:VS l) (hlen:g.length=l.length)
include hm hm' hv hlen
end
end Go.Proofs.S97.Q
