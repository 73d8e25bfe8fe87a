/-
  Chapter 16: what accounts want. No condition.
-/
import Derived.Test.YthipjfnealbheaaGreatDoorW97G1x3
import Derived.Test.YthipjfnealbheaaGreatDoorW97G2x3
set_option linter.all false
open List renaming getD_eq_getElem?_getD->wB,getElem?_eq_getElem->wC,take_length->wD,length_take->wE,take_zero->wF
open Nat renaming exists_eq_add_of_le'->wG,le_refl->wH
namespace Go.Proofs.S97.Q
open Go Go.Ev Go.Proofs
variable {gl :Gl} {n:Nat}
def shA (l:List A3):List S2:=l.map fun a=>⟨a.w,a.u⟩
def wnt (l:List A3)(k:Nat)(v:Int):List S2:=(shA l).set k ⟨(aat l k).w,mn 1099511627776 ((aat l k).u+v)⟩
theorem zdt (l:List A3):(shA l).length=l.length:=by simp[shA]
theorem zb5 (l:List A3)(k:Nat)(v:Int):(wnt l k v).length=l.length:=by simp[wnt,zdt]
theorem ztf {l:List A3}{i:Nat}(h:i<l.length):sat (shA l) i=⟨(aat l i).w,(aat l i).u⟩:=by simp[sat,shA,aat,h]
theorem zh8 {l:List A3}{k:Nat}{v:Int}{i:Nat}(h:i<l.length):sat (wnt l k v) i=⟨(aat l i).w,if i=k then mn 1099511627776 ((aat l k).u+v)else(aat l i).u⟩:=by
 unfold wnt sat
 rw[wB]
 by_cases e:i=k
 . subst e;rw[List.getElem?_set_self (by rw[zdt];exact h),if_pos rfl];rfl
 . rw[List.getElem?_set_ne (by omega),if_neg e]
   have:=ztf h
   rw[sat,wB]at this
   exact this
theorem zd0 {l:List A3}(hv:VA l){k:Nat}{v:Int}(hvv:0<=v/\v<=1099511627776):VS (wnt l k v):=by
 refine⟨by rw[zb5];exact hv.n,fun i hi=> ?_⟩
 rw[zb5]at hi
 rw[zh8 hi]
 have o:=hv.ok i hi
 refine⟨o.w,?_⟩
 have:=o.u
 simp only
 split
 . rename_i h;subst h
   have:=zx2 1099511627776 ((aat l i).u+v)
   omega
 . exact this
theorem zu9 {l:List S2}{i:Nat}(h:i<l.length):l.take (i+1)=l.take i++[sat l i]:=by
 rw[List.take_add_one,wC h];simp[sat,List.getD,wC h]
def L31 :MC:=match m89 with| .seq _ (.seq _ (.seq (.seq _ (.block _ (.loop _ b))) _))=>b|_=>.skip
def S31 (l:List A3)(k:Nat)(q v:Int)(i:Nat):St :=
 ⟨[.set 8 (i64 i),.set 7 (.sl 5007 [] 0 i),.set 2 (i64 v),.set 1 (i64 q),.set 0 (.lst false sA (ac l))],[(5007,.grow sS (sh ((wnt l k v).take i)))]⟩
set_option maxHeartbeats 1000000 in
theorem z0u (h:1<=n){l:List A3}(hv:VA l){k:Nat}(hk:k<l.length){q v:Int}(hq:(aat l k).t=q)(hvv:0<=v/\v<=1099511627776) :
  call gl tab n 89 [.lst false sA (ac l),i64 q,i64 v] []=some (.lst false sS (sh (wnt l k v)),[],[]):=by
 obtain⟨d,rfl⟩:=wG h
 have hn:=hv.n
 have hs:∀i,i<l.length->za1 [.slot 0,.slot 1,.slot 2,.own 7 5007 (.st [.sc,.sc]),.slot 8] (evC gl (call gl tab d) L31 (S31 l k q v i))=some (S31 l k q v (i+1)):=fun i hi=>by
  have hx:=zde hi
  have hu:=(hv.ok i hi).u
  have hw:=@zb5 l k v
  have hlen:((wnt l k v).take i).length=i:=by rw[wE,hw];omega
  have htk:=fun x=>z0i ((wnt l k v).take i) x
  rw[hlen]at htk
  have hlim:i+1<=LIM:=by unfold LIM;omega
  have et:=zu9 (show i<(wnt l k v).length by omega)
  rw[zh8 hi]at et
  by_cases e:i=k
  . subst e
    have h1:((aat l i).t==q)=true:=by rw[hq];simp
    have e2:(if(aat l i).u+v<1099511627776 then(aat l i).u+v else 1099511627776)=mn 1099511627776 ((aat l i).u+v):=rfl
    rw[if_pos rfl]at et
    simp(disch:=apply zq;omega) only[go_sem,simprocAttr,↓Nat.reduceEqDiff,xx,L31,m89,S31,zab,hx,h1,zie,zk0,gt_iff_lt,e2,zat,hlen,hlim,et,z0k,htk]
  . have h1:((aat l i).t==q)=false:=by
     rw[beq_eq_false_iff_ne];intro h2
     rcases Nat.lt_or_gt_of_ne e with h3|h3
     . have:=zfn hv h3 hk;omega
     . have:=zfn hv h3 hi;omega
    rw[if_neg e]at et
    simp(disch:=apply zq;omega) only[go_sem,simprocAttr,↓Nat.reduceEqDiff,xx,L31,m89,S31,zab,hx,h1,zat,hlen,hlim,et,z0k,htk]
 simp only[L31,m89]at hs
 rw[zaf (fd:=fd89) rfl]
 simp(disch:=apply zq;omega) only[go_sem,simprocAttr,↓Nat.reduceEqDiff,xx,fd89,m89,zab]
 have htk:=zvg (wnt l k v)
 rw[zb5]at htk
 have hw:=@zb5 l k v
 have ht:(wnt l k v).take l.length=wnt l k v:=by rw[<-hw];exact wD
 rw[zaj (S31 l k q v) l.length (by unfold LF;omega)]
 . simp(disch:=apply zq;omega) only[go_sem,simprocAttr,↓Nat.reduceEqDiff,xx,S31,zab,ht,zat,hw,htk]
 . simp(disch:=apply zq;omega) only[go_sem,simprocAttr,↓Nat.reduceEqDiff,xx,S31,zab,wF,z9o]
 . exact hs
 . simp(disch:=apply zq;omega) only[go_sem,simprocAttr,↓Nat.reduceEqDiff,xx,S31,zab]
end Go.Proofs.S97.Q
namespace Go.Proofs.S97.Q
open Go Go.Ev Go.Proofs
variable {gl :Gl} {n:Nat}
def L43 :MC:=match m87 with| .seq _ (.seq (.seq _ (.block _ (.loop _ b))) _)=>b|_=>.skip
def S43 (f:Bool)(m:Sh)(l:List A3)(q:Int)(i:Nat):St:=⟨[.set 5 (i64 i),.set 1 (i64 q),.set 0 (.lst f m (ac l))],[]⟩
theorem rplace_at (h:1<=n){f:Bool}{m:Sh}{l:List A3}(hm:Mk l m sA)(hl:l.length<=1000){q:Int}{k:Nat}(hk:k<=l.length)(hb:∀j,j<k->(aat l j).t≠q)(he:k<l.length->(aat l k).t=q) :
  call gl tab n 87 [.lst f m (ac l),i64 q] []=some (i64 (if k<l.length then k else -1),[],[]):=by
 obtain⟨d,rfl⟩:=wG h
 rw[zaf (fd:=fd87) rfl]
 simp(disch:=apply zq;omega) only[go_sem,simprocAttr,↓Nat.reduceEqDiff,xx,fd87,m87,zab]
 have hs:∀i,i<k->za1 [.slot 0,.slot 1,.slot 5] (evC gl (call gl tab d) L43 (S43 f m l q i))=some (S43 f m l q (i+1)):=fun i hi=>by
  have hx:=zde (show i<l.length by omega)
  obtain rfl:=hm.eq (show i<l.length by omega)
  have hq:((aat l i).t==q)=false:=by simp[hb i hi]
  simp(disch:=apply zq;omega) only[go_sem,simprocAttr,↓Nat.reduceEqDiff,xx,L43,m87,S43,zab,hx,hq]
 simp only[L43,m87]at hs
 by_cases hkl:k<l.length
 . have hx:=zde hkl
   obtain rfl:=hm.eq hkl
   have hq:((aat l k).t==q)=true:=by simp[he hkl]
   rw[zaj (S43 f sA l q) k (by unfold LF;omega)]
   . simp(disch:=apply zq;omega) only[go_sem,simprocAttr,↓Nat.reduceEqDiff,xx,S43,zab,hx,hq]
   . simp(disch:=apply zq;omega) only[go_sem,simprocAttr,↓Nat.reduceEqDiff,xx,S43]
   . exact hs
   . simp(disch:=apply zq;omega) only[go_sem,simprocAttr,↓Nat.reduceEqDiff,xx,S43,zab,hx,hq]
 . rw[zaj (S43 f m l q) k (by unfold LF;omega)]
   . simp(disch:=apply zq;omega) only[go_sem,simprocAttr,↓Nat.reduceEqDiff,xx,S43,zab]
   . simp(disch:=apply zq;omega) only[go_sem,simprocAttr,↓Nat.reduceEqDiff,xx,S43]
   . exact hs
   . simp(disch:=apply zq;omega) only[go_sem,simprocAttr,↓Nat.reduceEqDiff,xx,S43,zab]
theorem z1i (h:4<=n){l:List A3}(hv:VA l)(ht:∀i,i<l.length->(aat l i).t<=9223372036854775807){q:Int}(hq:-9223372036854775808<=q/\q<=9223372036854775807) :
  ∃(k:Nat) (b:Bool),k<=l.length/\(0<q->Pl l q k)/\(b=true->k<l.length/\(aat l k).t=q)/\(b=false->¬has l q) /\
   call gl tab n 62 [.lst false sA (ac l),i64 q] []=some (.tup [i64 k,.bool b],[],[])/\call gl tab n 87 [.lst false sA (ac l),i64 q] []=some (i64 (if b then k else -1),[],[]):=by
 obtain⟨d,rfl⟩:=wG h
 have hn:=hv.n
 obtain⟨k,hk,hp,b,hb,c46⟩:=@zq8 gl (d+3) (by omega) false sA l (.inr rfl) hv ht q hq
 have hk2:b=true->k<l.length/\(aat l k).t=q:=fun h=>by
  obtain⟨j,hj,hj2⟩:=hb.1 h
  have h0:0<q:=by have:=zer hv hj;omega
  have p:=hp h0
  rcases Nat.lt_trichotomy j k with h3|h3|h3
  . have:=p.lo j h3;omega
  . subst h3;exact⟨hj,hj2⟩
  . have:=zfn hv h3 hj
    have:=p.hi k (wH _) (by omega);omega
 refine⟨k,b,hk,hp,hk2,fun h h'=>by have:=hb.2 h';simp_all,?_,?_⟩
 . rw[zaf (fd:=fd62) rfl]
   simp(disch:=apply zq;omega) only[go_sem,simprocAttr,↓Nat.reduceEqDiff,xx,fd62,m62,c46]
 . cases b with
   | false =>
     rw[rplace_at (by omega) (.inr rfl) hn (wH l.length) (fun j hj h'=>by have:=hb.2 ⟨j,hj,h'⟩;simp at this) (fun h=>absurd h (by omega))]
     simp
   | true =>
     obtain⟨h1,h2⟩:=hk2 rfl
     rw[rplace_at (by omega) (.inr rfl) hn hk (fun j hj h'=>by have:=zfn hv hj h1;omega) (fun _=>h2)]
     simp[h1]
theorem zwq (h:1<=n){f:Bool}{l:List A3}(hl:l.length<=1000):call gl tab n 40 [.lst f sA (ac l)] []=some (.sl 20000 [] 0 l.length,[],[.grow sA (ac l)]):=by
 obtain⟨d,rfl⟩:=wG h
 rw[zgq (fd:=fd40) rfl rfl]
 have h1:l.length<=LIM:=by unfold LIM;omega
 simp[zjj,zab,h1,Sh.beq,Sh.beqs]
end Go.Proofs.S97.Q
namespace Go.Proofs.S97.Q
open Go Go.Ev Go.Proofs
variable {gl :Gl} {n:Nat}
def bst (l:List A3)(g:List Int)(k:Nat):Nat->Int×Int
 | 0=>(0,0)
 | i+1=>if i≠k/\(bst l g k i).2<(aat l i).u-nat g i then((aat l i).t,(aat l i).u-nat g i)else bst l g k i
theorem z4o (l:List A3)(g:List Int)(k:Nat):∀i,0<=(bst l g k i).2
 | 0=>Int.le_refl _
 | i+1=>by
   have:=z4o l g k i
   rw[bst];split
   . simp only;omega
   . exact this
def L50 :MC:=match m99 with| .seq _ (.block _ (.loop _ b))=>b|_=>.skip
def S50 (l:List A3)(g:List Int)(k N:Nat)(o:Int×Int)(i:Nat):St :=
 ⟨[.set 9 (i64 i),.set 8 (i64 l.length),.set 7 (.lst false sA (ac l)),.set 3 (.ptr 100005 []),.set 2 (.ptr 100004 []),.set 0 (.yld 100000)],
   [(100006,.grow .sc (ns g)),(100005,.fix .sc (.sl 100006 [] 0 N)),(100004,.fix .sc (i64 k)),(100003,.fix .sc (.lst false sA (ac l))),(100002,.fix .sc (i64 o.2)),(100001,.fix .sc (i64 o.1)),(100000,.lp 540 [.ptr 100001 [],.ptr 100002 []] .ready)]⟩
theorem round_at (h:1<=n)(a b t x:Int):call gl tab n 1000540 [i64 t,i64 x] [(100000,.lp 540 [.ptr 100001 [],.ptr 100002 []] .ready),(100001,.fix .sc (i64 a)),(100002,.fix .sc (i64 b))] =
  some (.bool true,[(100000,.lp 540 [.ptr 100001 [],.ptr 100002 []] .ready),(100001,.fix .sc (i64 (if b<x then t else a))),(100002,.fix .sc (i64 (if b<x then x else b)))],[]):=by
 obtain⟨d,rfl⟩:=wG h
 rw[zgq (fd:=zsi) rfl rfl]
 by_cases hb:b<x
 . simp(disch:=apply zq;omega) only[go_sem,simprocAttr,↓Nat.reduceEqDiff,xx,zsi,z6r,z6p]
 . simp(disch:=apply zq;omega) only[go_sem,simprocAttr,↓Nat.reduceEqDiff,xx,zsi,z6r,z6p]
set_option maxHeartbeats 2000000 in
theorem qgb {d:Nat}{l:List A3}{g:List Int}{k i:Nat}(hv:VA l)(hgl:g.length=l.length)(hi:i<l.length)(hg:0<=nat g i/\nat g i<=1099511627776) :
  za1 [.slot 0,.slot 2,.slot 3,.slot 7,.slot 8,.slot 9] (evC gl (call gl tab (d+1)) L50 (S50 l g k l.length (bst l g k i) i))=some (S50 l g k l.length (bst l g k (i+1)) (i+1)):=by
 have hn:=hv.n
 have hx:=zde hi
 have hu:=(hv.ok i hi).u
 have hy:=ns_at (show i<g.length by omega)
 by_cases hk:i=k
 . subst hk
   have e:bst l g i (i+1)=bst l g i i:=by rw[bst,if_neg (by omega)]
   simp(disch:=apply zq;omega) only[go_sem,simprocAttr,↓Nat.reduceEqDiff,xx,L50,m99,S50,hx,zab,e]
 . have h1:((i:Int)==k)=false:=by rw[beq_eq_false_iff_ne];omega
   by_cases h2:nat g i<(aat l i).u
   . have c290:=@round_at gl (d+1) (by omega) (bst l g k i).1 (bst l g k i).2 (aat l i).t ((aat l i).u-nat g i)
     have e:bst l g k (i+1)=(if(bst l g k i).2<(aat l i).u-nat g i then(aat l i).t else(bst l g k i).1,if(bst l g k i).2<(aat l i).u-nat g i then(aat l i).u-nat g i else(bst l g k i).2):=by
      rw[bst]
      by_cases h3:(bst l g k i).2<(aat l i).u-nat g i
      . rw[if_pos ⟨hk,h3⟩,if_pos h3,if_pos h3]
      . rw[if_neg (fun h=>h3 h.2),if_neg h3,if_neg h3]
     rw[e]
     generalize bst l g k i=o at *
     simp(disch:=apply zq;omega) only[go_sem,simprocAttr,↓Nat.reduceEqDiff,xx,L50,m99,S50,hx,zab,h1,hy,ns_length,hgl,c290]
   . have e:bst l g k (i+1)=bst l g k i:=by
      rw[bst,if_neg];intro h
      have:=z4o l g k i
      omega
     rw[e]
     generalize bst l g k i=o at *
     simp(disch:=apply zq;omega) only[go_sem,simprocAttr,↓Nat.reduceEqDiff,xx,L50,m99,S50,hx,zab,h1,hy,ns_length,hgl]
theorem z3s (h:1<=n){l:List A3}{g:List Int}{k N:Nat} :
  call gl tab n 79 [.lst false sA (ac l),.sl 100000 [] 0 N,i64 k] [(100000,.grow .sc (ns g))]=some (.fn 99 [.ptr 20000 [],.ptr 20001 [],.ptr 20002 []],[(100000,.grow .sc (ns g))],[.fix .sc (.lst false sA (ac l)),.fix .sc (i64 k),.fix .sc (.sl 100000 [] 0 N)]):=by
 obtain⟨d,rfl⟩:=wG h
 rw[zbl (fd:=fd79) rfl]
 simp(disch:=apply zq;omega) only[go_sem,simprocAttr,↓Nat.reduceEqDiff,xx,fd79,m79]
theorem zy5 (h:2<=n){l:List A3}{g:List Int}{k:Nat}(hv:VA l)(hgl:g.length=l.length)(hg:∀i,i<l.length->0<=nat g i/\nat g i<=1099511627776) :
  call gl tab n 99 [.yld 100000,.ptr 100003 [],.ptr 100004 [],.ptr 100005 []]
   [(100000,.lp 540 [.ptr 100001 [],.ptr 100002 []] .ready),(100001,.fix .sc (i64 0)),(100002,.fix .sc (i64 0)),(100003,.fix .sc (.lst false sA (ac l))),(100004,.fix .sc (i64 k)),(100005,.fix .sc (.sl 100006 [] 0 l.length)),(100006,.grow .sc (ns g))] =
  some (.tup [],[(100000,.lp 540 [.ptr 100001 [],.ptr 100002 []] .ready),(100001,.fix .sc (i64 (bst l g k l.length).1)),(100002,.fix .sc (i64 (bst l g k l.length).2)),(100003,.fix .sc (.lst false sA (ac l))),(100004,.fix .sc (i64 k)),(100005,.fix .sc (.sl 100006 [] 0 l.length)),(100006,.grow .sc (ns g))],[]):=by
 obtain⟨d,rfl⟩:=wG h
 have hn:=hv.n
 have hs:=fun i hi=>@qgb gl d l g k i hv hgl hi (hg i hi)
 simp only[L50,m99]at hs
 rw[zbl (fd:=fd99) rfl]
 simp(disch:=apply zq;omega) only[go_sem,simprocAttr,↓Nat.reduceEqDiff,xx,fd99,m99,zab]
 rw[zaj (fun i=>S50 l g k l.length (bst l g k i) i) l.length (by unfold LF;omega)]
 . simp(disch:=apply zq;omega) only[go_sem,simprocAttr,↓Nat.reduceEqDiff,xx,S50,zab]
 . simp(disch:=apply zq;omega) only[go_sem,simprocAttr,↓Nat.reduceEqDiff,xx,S50,zab,bst]
 . exact hs
 . simp(disch:=apply zq;omega) only[go_sem,simprocAttr,↓Nat.reduceEqDiff,xx,S50,zab]
end Go.Proofs.S97.Q
namespace Go.Proofs.S97.Q
open Go Go.Ev Go.Proofs
variable {gl :Gl} {n:Nat}
theorem ns_noImms :∀(l:List Int),zcz (ns l)=true
 | []=>rfl
 | x::l=>by
   have:=ns_noImms l
   rw[ns,List.map_cons,zcz,<-ns,this];rfl
def L29 :MC:=match m54 with| .seq _ (.seq _ (.seq _ (.seq _ (.seq (.seq _ (.block _ (.loop _ b))) _))))=>b|_=>.skip
def S29 (l:List A3)(k:Nat)(c v:Int)(i:Nat):St :=
 ⟨[.set 45 (i64 i),.set 44 (i64 l.length),.set 43 (.lst false sA (ac l)),.set 12 (.sl 5012 [] 0 i),.set 10 (i64 k),.set 3 (i64 v),.set 1 (.lst false sA (ac l)),.set 0 (i64 c)],[(5012,.grow sS (sh ((shA l).take i)))]⟩
theorem qkc {d:Nat}{l:List A3}(hv:VA l)(k:Nat)(c v:Int):∀i,i<l.length->za1 [.slot 0,.slot 1,.slot 3,.slot 10,.own 12 5012 (.st [.sc,.sc]),.slot 43,.slot 44,.slot 45] (evC gl (call gl tab d) L29 (S29 l k c v i))=some (S29 l k c v (i+1)):=fun i hi=>by
 have hn:=hv.n
 have hx:=zde hi
 have hw:=@zdt l
 have hlen:((shA l).take i).length=i:=by rw[wE,hw];omega
 have htk:=fun x=>z0i ((shA l).take i) x
 rw[hlen]at htk
 have hlim:i+1<=LIM:=by unfold LIM;omega
 have et:=zu9 (show i<(shA l).length by omega)
 rw[ztf hi]at et
 simp(disch:=apply zq;omega) only[go_sem,simprocAttr,↓Nat.reduceEqDiff,xx,L29,m54,S29,zab,hx,zat,hlen,hlim,et,z0k,htk]
theorem z3j {l:List S2}(hv:VS l){c m:Int}(hq:Lv l c m){i:Nat}(hi:i<l.length):0<=nat (gets l m c l.length) i/\nat (gets l m c l.length) i<=1099511627776:=by
 have h0:=hq.lo;have h00:=hq.hi
 rw[zmw l m c hi]
 have h1:=zr3 hv hq (show i<=l.length by omega)
 have h2:=zh4 (hv.ok i hi) (show 0<=m/\m<=1099511627777 by omega)
 have h3:=zry (hv.ok i hi) (show 0<=m/\m<=1099511627777 by omega) h1.1
 have h4:=(hv.ok i hi).x
 unfold get1;omega
set_option maxHeartbeats 2000000 in
theorem zxd (h:12<=n){l:List A3}(hv:VA l){q c v:Int}{k:Nat}(hc:0<=c/\c<=1099511627776)(hvv:0<=v/\v<=1099511627776)(hk:k<l.length){m:Int}(hm:Lv (wnt l k v) c m)
  (ht:c<sumU l l.length+v) (c40:call gl tab (n-1) 62 [.lst false sA (ac l),i64 q] []=some (.tup [i64 k,.bool true],[],[])) :
  call gl tab n 54 [i64 c,.lst false sA (ac l),i64 q,i64 v] []=some (if nat (gets (wnt l k v) m c l.length) k<(aat l k).u+v then .tup [i64 0,i64 160]else .tup [i64 (bst l (gets (wnt l k v) m c l.length) k l.length).1,i64 0],[],[]):=by
 obtain⟨d,rfl⟩:=wG h
 rw[show d+12-1=d+11 from rfl]at c40
 have hn:=hv.n
 have hu:=(hv.ok k hk).u
 have hs:=zcb hv (wH l.length)
 have c27:=@zo1 gl (d+11) (by omega) false sA l (.inr rfl) hv
 have hvl:=@qkc gl (d+11) l hv k c v
 have hx:=zde hk
 have hws:=zd0 hv (k:=k) hvv
 have c16:=@qef gl (d+11) (by omega) false sS (wnt l k v) (.inr rfl) hws c hc m hm
 have hsx:=z0j (show k<(shA l).length by rw[zdt];exact hk)
 rw[ztf hk]at hsx
 have e2:(if(aat l k).u+v<1099511627776 then(aat l k).u+v else 1099511627776)=mn 1099511627776 ((aat l k).u+v):=rfl
 have hset:(sh (shA l)).set k (.agg [i64 (aat l k).w,i64 (mn 1099511627776 ((aat l k).u+v))])=sh (wnt l k v):=by simp[sh,wnt,List.map_set]
 have htk:=zvg (wnt l k v)
 have hgb:=fun i hi=>@z3j (wnt l k v) hws c m hm i hi
 rw[zb5]at htk c16 hgb
 have hgl:=zbi (wnt l k v) m c l.length
 have hgx:=ns_at (show k<(gets (wnt l k v) m c l.length).length by rw[hgl];exact hk)
 have ht2:(shA l).take l.length=shA l:=by rw[<-zdt l];exact wD
 have c44:=@z3s gl (d+11) (by omega) l (gets (wnt l k v) m c l.length) k l.length
 have c50:=@zy5 gl (d+11) (by omega) l (gets (wnt l k v) m c l.length) k hv hgl hgb
 have him:=ns_noImms (gets (wnt l k v) m c l.length)
 generalize gets (wnt l k v) m c l.length=g at *
 have h0:=hgb k hk
 simp only[L29,m54]at hvl
 rw[zaf (fd:=fd54) rfl]
 simp(disch:=apply zq;omega) only[go_sem,simprocAttr,↓Nat.reduceEqDiff,xx,fd54,m54,zab,c40,c27]
 rw[zaj (S29 l k c v) l.length (by unfold LF;omega)]
 . by_cases hg:nat g k<(aat l k).u+v
   . simp(disch:=apply zq;omega) only[go_sem,simprocAttr,↓Nat.reduceEqDiff,xx,S29,zab,hx,ht2,zat,zdt,hsx,zie,zk0,gt_iff_lt,e2,hset,htk,zb5,c16,ns_length,hgl,hgx,him,hg]
   . simp(disch:=apply zq;omega) only[go_sem,simprocAttr,↓Nat.reduceEqDiff,xx,S29,zab,hx,ht2,zat,zdt,hsx,zie,zk0,gt_iff_lt,e2,hset,htk,zb5,c16,ns_length,hgl,hgx,him,hg]
     simp(maxSteps:=1000000) (disch:=apply zq;omega) only[go_sem,simprocAttr,↓Nat.reduceEqDiff,xx,c44,zab,ns_length,hgl,c50]
 . simp(disch:=apply zq;omega) only[go_sem,simprocAttr,↓Nat.reduceEqDiff,xx,S29,zab,wF,z9o]
 . exact hvl
 . simp(disch:=apply zq;omega) only[go_sem,simprocAttr,↓Nat.reduceEqDiff,xx,S29,zab]
end Go.Proofs.S97.Q
