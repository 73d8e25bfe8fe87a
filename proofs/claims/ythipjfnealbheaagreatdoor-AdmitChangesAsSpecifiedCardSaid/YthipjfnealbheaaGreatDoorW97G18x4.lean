/-
  Chapter 16: use. No condition.
-/
import Derived.Test.YthipjfnealbheaaGreatDoorW97G2x4
import Derived.Test.YthipjfnealbheaaGreatDoorW97G17x4
set_option linter.all false
open Nat renaming exists_eq_add_of_le'->wB,lt_trichotomy->wC
namespace Go.Proofs.S97.Q
open Go Go.Ev Go.Proofs
variable {gl :Gl} {n:Nat}
def uerr (l:List A3)(k:Nat)(v:Int)(b:Bool):Int:=if b then(if 1099511627776<v\/v < -1099511627776\/(aat l k).u+v<0\/1099511627776<(aat l k).u+v then 1 else 0)else 5
def updA (l:List A3)(k:Nat)(v:Int):List A3:=l.set k ⟨(aat l k).t,(aat l k).w,(aat l k).u+v⟩
theorem zzd (l:List A3)(k:Nat)(v:Int):(ac l).set k (.agg [i64 (aat l k).t,i64 (aat l k).w,i64 ((aat l k).u+v)])=ac (updA l k v):=by simp[updA,ac,List.map_set]
theorem za3 (l:List A3)(k:Nat)(v:Int):(updA l k v).length=l.length:=by simp[updA]
theorem qe0 (h:6<=n){l:List A3}(hv:VA l){q v:Int}{k:Nat}(hkl:k<l.length)(he:uerr l k v true=0)
  (c40:call gl tab (n-1) 62 [.lst false sA (ac l),i64 q] []=some (.tup [i64 k,.bool true],[],[])) :
  call gl tab n 27 [.lst false sA (ac l),i64 q,i64 v] []=some (.tup [.lst false sA (ac (updA l k v)),i64 0],[],[]):=by
 obtain⟨d,rfl⟩:=wB h
 rw[show d+6-1=d+5 from rfl]at c40;have c:=c40;clear c40
 have hn:=hv.n
 have hx:=zej hkl
 have hu:=(hv.ok k hkl).u
 have he2:¬(1099511627776<v\/v < -1099511627776\/(aat l k).u+v<0\/1099511627776<(aat l k).u+v):=fun h=>by rw[uerr,if_pos rfl,if_pos h]at he;omega
 have c42:=@zv9 gl (d+5) (by omega) false l (by omega)
 have e1:=zzd l k v
 have e2:=zwm (updA l k v)
 rw[za3]at e2
 rw[zaf (fd:=fd27) rfl]
 simp(disch:=apply zq;omega) only[go_sem,simprocAttr,↓Nat.reduceEqDiff,xx,fd27,m27,c,zad,hx,c42,e1,e2,za3]
theorem zgn {l:List A3}{k:Nat}(hk:k<l.length)(v:Int)(i:Nat):aat (updA l k v) i=if i=k then⟨(aat l k).t,(aat l k).w,(aat l k).u+v⟩else aat l i:=by
 unfold updA
 by_cases h:i=k
 . subst h;rw[if_pos rfl];simp[aat,List.getD_eq_getElem?_getD,hk]
 . rw[if_neg h];unfold aat
   simp only[List.getD_eq_getElem?_getD];rw[List.getElem?_set_ne (by omega)]
theorem zm2 {l:List A3}(hv:VA l){v:Int}{k:Nat}(hkl:k<l.length)(he:uerr l k v true=0):VA (updA l k v):=by
 have he2:¬(1099511627776<v\/v < -1099511627776\/(aat l k).u+v<0\/1099511627776<(aat l k).u+v):=fun h=>by rw[uerr,if_pos rfl,if_pos h]at he;omega
 have et:∀i,(aat (updA l k v) i).t=(aat l i).t:=fun i=>by rw[zgn hkl];split<;>simp_all
 have ew:∀i,(aat (updA l k v) i).w=(aat l i).w:=fun i=>by rw[zgn hkl];split<;>simp_all
 refine⟨by rw[za3];exact hv.n,fun i hi=> ?_⟩
 rw[za3]at hi
 have o:=hv.ok i hi
 have op:zlt (updA l k v) i=zlt l i:=by cases i<;>simp[zlt,et]
 refine⟨by rw[et,op];exact o.t,by rw[ew];exact o.w,?_⟩
 rw[zgn hkl]
 by_cases h:i=k
 . rw[if_pos h];simp only;omega
 . rw[if_neg h];exact o.u
end Go.Proofs.S97.Q
namespace Go.Proofs.S97
open Go Go.Ev Go.Proofs Go.Proofs.S97.Q
variable {gl :Gl} {n:Nat}
def Tn (l:List A3):Prop:=∀i,i<l.length->(aat l i).t<=9223372036854775807
abbrev I64 (q:Int):Prop:=-9223372036854775808<=q/\q<=9223372036854775807
theorem place_at (h:3<=n){l:List A3}(hv:VA l)(ht:Tn l){q:Int}(hq:I64 q) :
  ∃(k:Nat) (b:Bool),k<=l.length/\(b=true->k<l.length/\(aat l k).t=q)/\(b=false->∀j,j<l.length->(aat l j).t≠q) /\
   call gl tab n 62 [.lst false sA (ac l),i64 q] []=some (.tup [i64 k,.bool b],[],[]):=by
 obtain⟨d,rfl⟩:=wB h
 have hn:=hv.n
 obtain⟨k,hk,hp,b,hb,c46⟩:=@zz1 gl (d+2) (by omega) false sA l (.inr rfl) hv ht q hq
 have hk2:b=true->k<l.length/\(aat l k).t=q:=fun h=>by
  obtain⟨j,hj,hj2⟩:=hb.1 h
  have h0:0<q:=by have:=zeq hv hj;omega
  have p:=hp h0
  rcases wC j k with h3|h3|h3
  . have:=p.lo j h3;omega
  . subst h3;exact⟨hj,hj2⟩
  . have:=zik hv h3 hj
    have:=p.hi k (Nat.le_refl _) (by omega);omega
 refine⟨k,b,hk,hk2,(fun h j hj h'=>by have:=hb.2 ⟨j,hj,h'⟩;rw[h]at this;cases this),?_⟩
 rw[zaf (fd:=fd62) rfl]
 simp(disch:=apply zq;omega) only[go_sem,simprocAttr,↓Nat.reduceEqDiff,xx,fd62,m62,c46]
theorem zjg {l:List A3}(hv:VA l){i j:Nat}(hi:i<l.length)(hj:j<l.length)(e:(aat l i).t=(aat l j).t):i=j:=by
 rcases wC i j with h|h|h
 . have:=zik hv h hj;omega
 . exact h
 . have:=zik hv h hi;omega
theorem zsm (h:6<=n){l:List A3}(hv:VA l)(ht:Tn l){q v:Int}(hq:I64 q){k:Nat}(hk:k<l.length)(hkq:(aat l k).t=q)(he:uerr l k v true=0) :
  call gl tab n 27 [.lst false sA (ac l),i64 q,i64 v] []=some (.tup [.lst false sA (ac (updA l k v)),i64 0],[],[]):=by
 obtain⟨k',b,h1,h2,h3,c⟩:=@place_at gl (n-1) (by omega) l hv ht q hq
 cases b with
 | false=>exact absurd hkq (h3 rfl k hk)
 | true =>
   obtain⟨h4,h5⟩:=h2 rfl
   obtain rfl:=zjg hv hk h4 (hkq.trans h5.symm)
   exact qe0 h hv hk he c
def cmpI (a b:Int):Int:=if a<b then -1 else if b<a then 1 else 0
theorem z0z (h:1<=n)(a:Int):call gl tab n 113 [i64 a] []=some (.bool false,[],[]):=by
 obtain⟨d,rfl⟩:=wB h
 have e:(a != a)=false:=by simp
 rw[zaf (fd:=z7k) rfl]
 simp(disch:=apply zq;omega) only[go_sem,simprocAttr,↓Nat.reduceEqDiff,xx,z7k,m113,e]
theorem zpw (h:2<=n)(a b:Int):call gl tab n 101 [i64 a,i64 b] []=some (i64 (cmpI a b),[],[]):=by
 obtain⟨d,rfl⟩:=wB h
 have c1:=@z0z gl (d+1) (by omega) a
 have c2:=@z0z gl (d+1) (by omega) b
 rw[zaf (fd:=zyj) rfl]
 by_cases h1:a<b
 . have e1:cmpI a b=-1:=by rw[cmpI,if_pos h1]
   simp(disch:=apply zq;omega) only[go_sem,simprocAttr,↓Nat.reduceEqDiff,xx,zyj,m101,c1,c2,e1]
 . by_cases h2:b<a
   . have e1:cmpI a b=1:=by rw[cmpI,if_neg h1,if_pos h2]
     simp(disch:=apply zq;omega) only[go_sem,simprocAttr,↓Nat.reduceEqDiff,xx,zyj,m101,c1,c2,e1]
   . have e1:cmpI a b=0:=by rw[cmpI,if_neg h1,if_neg h2]
     simp(disch:=apply zq;omega) only[go_sem,simprocAttr,↓Nat.reduceEqDiff,xx,zyj,m101,c1,c2,e1]
def orL :List Int->Int
 | []=>0
 | x::r=>if x=0 then orL r else x
theorem z0u :∀{l:List Int},(∀i,i<l.length->nat l i=0)->orL l=0
 | [],_=>rfl
 | x::r,h=>by
   have h0:x=0:=h 0 (by simp)
   rw[orL,if_pos h0]
   exact z0u fun i hi=>h (i+1) (by simpa using hi)
theorem zrc :∀{l:List Int} {k:Nat},k<l.length->(∀i,i<k->nat l i=0)->nat l k≠0->orL l=nat l k
 | [],k,hk,_,_=>by simp at hk
 | x::r,0,_,_,h=>by
   have:x≠0:=h
   rw[orL,if_neg this];rfl
 | x::r,k+1,hk,hz,h=>by
   have h0:x=0:=hz 0 (by omega)
   rw[orL,if_pos h0]
   exact zrc (l:=r) (k:=k) (by simpa using hk) (fun i hi=>hz (i+1) (by omega)) h
def L77 :MC:=match m100 with| .seq _ (.seq _ (.seq (.seq _ (.block _ (.loop _ b))) _))=>b|_=>.skip
def S77 (f:Bool)(l:List Int)(i:Nat):St:=⟨[.set 8 (i64 i),.set 7 (i64 l.length),.set 6 (.lst f .sc (ns l)),.set 3 (i64 0)],[]⟩
theorem qge (h:1<=n){f:Bool}{l:List Int}(hl:l.length<2^20):call gl tab n 100 [.lst f .sc (ns l)] []=some (i64 (orL l),[],[]):=by
 obtain⟨d,rfl⟩:=wB h
 have hst:∀i,i<l.length->nat l i=0->zba [.slot 3,.slot 6,.slot 7,.slot 8] (evC gl (call gl tab d) L77 (S77 f l i))=some (S77 f l (i+1)):=fun i hi hp=>by
  have hx:=ns_at hi
  rw[hp]at hx
  simp(disch:=apply zq;omega) only[go_sem,simprocAttr,↓Nat.reduceEqDiff,xx,L77,m100,S77,ns_length,hx]
 have hf:∀i,i<l.length->¬nat l i=0->out1 2 (evC gl (call gl tab d) L77 (S77 f l i))=some (.ret,i64 (nat l i)):=fun i hi hp=>by
  have hx:=ns_at hi
  have e:(nat l i != 0)=true:=by simpa using hp
  simp(disch:=apply zq;omega) only[go_sem,simprocAttr,↓Nat.reduceEqDiff,xx,L77,m100,S77,ns_length,hx,e]
 rw[zaf (fd:=z27) rfl]
 rcases first_fail (fun i=>nat l i=0) l.length with ha|⟨k,hk,hb,he⟩
 . have hs2:=fun i hi=>hst i hi (ha i hi)
   simp only[L77,m100]at hs2
   rw[z0u ha]
   simp(disch:=apply zq;omega) only[go_sem,simprocAttr,↓Nat.reduceEqDiff,xx,z27,m100,ns_length]
   rw[zaj (S77 f l) l.length (by unfold LF;omega)]
   . simp(disch:=apply zq;omega) only[go_sem,simprocAttr,↓Nat.reduceEqDiff,xx,S77,ns_length]
   . simp(disch:=apply zq;omega) only[go_sem,simprocAttr,↓Nat.reduceEqDiff,xx,S77,ns_length]
   . exact hs2
   . simp(disch:=apply zq;omega) only[go_sem,simprocAttr,↓Nat.reduceEqDiff,xx,S77,ns_length]
 . obtain⟨st,hst',hg⟩:=zcw (hf k hk he)
   have hs2:=fun i (hi:i<k)=>hst i (by omega) (hb i hi)
   simp only[L77,m100]at hs2 hst'
   rw[zrc hk hb he]
   simp(disch:=apply zq;omega) only[go_sem,simprocAttr,↓Nat.reduceEqDiff,xx,z27,m100,ns_length]
   rw[zaj (S77 f l) k (by unfold LF;omega),hst']
   . simp(disch:=apply zq;omega) only[go_sem,simprocAttr,↓Nat.reduceEqDiff,xx,hg]
   . simp(disch:=apply zq;omega) only[go_sem,simprocAttr,↓Nat.reduceEqDiff,xx,S77,ns_length]
   . exact hs2
   . rw[hst'];rfl
end Go.Proofs.S97
namespace Go.Proofs.S97
open Go Go.Ev Go.Proofs Go.Proofs.S97.Q
variable {gl :Gl} {n:Nat}
open Go.Mp (esN fN MOk)
abbrev shX :Sh:=.st [.st [.sc,.sc,.sc,.st [.sc,.sc,.sc,.sc]],.sc,.sc]
def cnt (S:Sf)(x:List UInt8):Int:=K.lea S.L (K.pl x S.w.toNat) 4
abbrev Mem :=List (List UInt8×Int×Nat)×Nat
theorem zp2 (h:2<=n){S:Sf}{q:Fl}(hq:FlOk S q)(hv:VA S.A) :
  call gl tab n 21 [sfV S q] []=some (.ptr 20000 [],[],[.fix shX (.aggR [.agg [i64 S.c,.lst q.fa q.ma (ac S.A),.lst q.fh q.mh (hs S.H),skV S q],i64 (sumU S.A S.A.length),.mp 20001]),.mp [] 0]):=by
 obtain⟨d,rfl⟩:=wB h
 have c1:=@zom gl (d+1) (by omega) q.fa q.ma S.A hq.a hv
 rw[za5 (fd:=fd21) rfl]
 simp(disch:=apply zq;omega) only[go_sem,simprocAttr,↓Nat.reduceEqDiff,xx,fd21,m21,c1]
structure KOk (S:Sf):Prop where
 w:1<=S.w/\S.w<=4096
 l:(S.L.length:Int)=4*S.w
theorem zwg {f:List UInt8->Int}{x:List UInt8}{m:Mem}{p:Nat×Int}(h:fN x m.1=some p):Mp.ask f x m=m:=by unfold Mp.ask;rw[h]
theorem zwh {f:List UInt8->Int}{x:List UInt8}{m:Mem}(h:fN x m.1=none):Mp.ask f x m=(m.1++[(x,f x,m.2)],m.2+1):=by unfold Mp.ask;rw[h]
theorem z9n [Nonempty (H.GlK gl)](h:10<=n){S:Sf}{q:Fl}(hk:KOk S){x:List UInt8}(hx:x.length<=5000):call gl tab n 82 [skV S q,.str x] []=some (i64 (cnt S x),[],[]):=by
 have e:((S.w.toNat:Nat):Int)=S.w:=by have:=hk.w;omega
 have hw:=hk.w
 have hl:=hk.l
 have:=@K.count_at gl n _ h x hx S.w.toNat (by omega) S.s S.a q.fl S.L (by omega)
 rw[e]at this
 exact this
abbrev XA (S:Sf)(q:Fl)(tot:Int):AV:=.aggR [.agg [i64 S.c,.lst q.fa q.ma (ac S.A),.lst q.fh q.mh (hs S.H),skV S q],i64 tot,.mp 100001]
abbrev XB (S:Sf)(q:Fl)(tot:Int):AV:=.aggR [.aggR [i64 S.c,.lst q.fa q.ma (ac S.A),.sl 100001 [] 0 S.H.length,skV S q],i64 tot,.mp 100002]
theorem zr3 [Nonempty (H.GlK gl)](h:11<=n){S:Sf}{q:Fl}(hk:KOk S){x:List UInt8}(hx:x.length<=5000){tot:Int}{m:Mem}(hm:MOk (cnt S) m.1) :
  call gl tab n 56 [.ptr 100000 [],.str x] [(100000,.fix shX (XA S q tot)),(100001,.mp (esN m.1) m.2)] =
   some (i64 (cnt S x),[(100000,.fix shX (XA S q tot)),(100001,.mp (esN (Mp.ask (cnt S) x m).1) (Mp.ask (cnt S) x m).2)],[]):=by
 obtain⟨d,rfl⟩:=wB h
 have c1:=@z9n gl (d+10) _ (by omega) S q hk x hx
 have c2:=Mp.find_esN x m.1
 rw[za5 (fd:=fd56) rfl]
 cases hf:fN x m.1 with
 | some p =>
   obtain⟨j,v⟩:=p
   obtain⟨e,he,e1,e2⟩:=Mp.fN_some hf
   have e3:=hm e he
   rw[e1,e2]at e3
   subst e3
   rw[zwg hf]
   rw[hf]at c2
   simp only[Option.map_some]at c2
   generalize cnt S x=cv at *
   simp(disch:=apply zq;omega) only[go_sem,simprocAttr,↓Nat.reduceEqDiff,xx,fd56,m56,c1,c2]
 | none =>
   rw[zwh hf]
   rw[hf]at c2
   simp only[Option.map_none]at c2
   have c3:=Mp.esN_app m.1 x (cnt S x) m.2
   generalize cnt S x=cv at *
   simp(disch:=apply zq;omega) only[go_sem,simprocAttr,↓Nat.reduceEqDiff,xx,fd56,m56,c1,c2,c3]
theorem zf0 [Nonempty (H.GlK gl)](h:11<=n){S:Sf}{q:Fl}{jk:List AV}(hk:KOk S){x:List UInt8}(hx:x.length<=5000){tot:Int}{m:Mem}(hm:MOk (cnt S) m.1) :
  call gl tab n 56 [.ptr 100000 [],.str x] [(100000,.fix shX (XB S q tot)),(100001,.grow sO (hs S.H++jk)),(100002,.mp (esN m.1) m.2)] =
   some (i64 (cnt S x),[(100000,.fix shX (XB S q tot)),(100001,.grow sO (hs S.H++jk)),(100002,.mp (esN (Mp.ask (cnt S) x m).1) (Mp.ask (cnt S) x m).2)],[]):=by
 obtain⟨d,rfl⟩:=wB h
 have c1:=@z9n gl (d+10) _ (by omega) S q hk x hx
 have c2:=Mp.find_esN x m.1
 rw[za5 (fd:=fd56) rfl]
 cases hf:fN x m.1 with
 | some p =>
   obtain⟨j,v⟩:=p
   obtain⟨e,he,e1,e2⟩:=Mp.fN_some hf
   have e3:=hm e he
   rw[e1,e2]at e3
   subst e3
   rw[zwg hf]
   rw[hf]at c2
   simp only[Option.map_some]at c2
   generalize cnt S x=cv at *
   simp(disch:=apply zq;omega) only[go_sem,simprocAttr,↓Nat.reduceEqDiff,xx,fd56,m56,c1,c2]
 | none =>
   rw[zwh hf]
   rw[hf]at c2
   simp only[Option.map_none]at c2
   have c3:=Mp.esN_app m.1 x (cnt S x) m.2
   generalize cnt S x=cv at *
   simp(disch:=apply zq;omega) only[go_sem,simprocAttr,↓Nat.reduceEqDiff,xx,fd56,m56,c1,c2,c3]
def les (S:Sf)(a b:Ob):Int:=orL [cmpI (cnt S a.nm) (cnt S b.nm),cmpI a.la b.la,Bl.cmp a.nm b.nm]
def ask2 (S:Sf)(a b:Ob)(m:Mem):Mem:=Mp.ask (cnt S) b.nm (Mp.ask (cnt S) a.nm m)
theorem z4d {S:Sf}{a b:Ob}{m:Mem}(h:MOk (cnt S) m.1):MOk (cnt S) (ask2 S a b m).1:=h.ask.ask
theorem ns3 (a b c:Int):[i64 a,i64 b,i64 c]=ns [a,b,c]:=rfl
theorem z6d [Nonempty (H.GlK gl)](h:12<=n){S:Sf}{q:Fl}(hk:KOk S){a b:Ob}(ha:a.nm.length<=5000)(hb:b.nm.length<=5000){tot:Int}{m:Mem}(hm:MOk (cnt S) m.1) :
  call gl tab n 81 [.ptr 100000 [],oV a,oV b] [(100000,.fix shX (XA S q tot)),(100001,.mp (esN m.1) m.2)] =
   some (i64 (les S a b),[(100000,.fix shX (XA S q tot)),(100001,.mp (esN (ask2 S a b m).1) (ask2 S a b m).2)],[]):=by
 obtain⟨d,rfl⟩:=wB h
 have c1:=@zr3 gl (d+11) _ (by omega) S q hk a.nm ha tot m hm
 have c2:=@zr3 gl (d+11) _ (by omega) S q hk b.nm hb tot (Mp.ask (cnt S) a.nm m) hm.ask
 have c3:=@zpw gl (d+11) (by omega) (cnt S a.nm) (cnt S b.nm)
 have c4:=@zpw gl (d+11) (by omega) a.la b.la
 have c5:=@zt7 gl (d+11) (by omega) a.nm b.nm
 have c6:=fun f=>@qge gl (d+11) (by omega) f [cmpI (cnt S a.nm) (cnt S b.nm),cmpI a.la b.la,Bl.cmp a.nm b.nm] (by simp)
 unfold ask2 les
 simp only[<-ns3]at c6
 rw[za5 (fd:=fd81) rfl]
 generalize Mp.ask (cnt S) b.nm (Mp.ask (cnt S) a.nm m)=m2 at *
 generalize Mp.ask (cnt S) a.nm m=m1 at *
 generalize cnt S a.nm=x1 at *
 generalize cnt S b.nm=x2 at *
 generalize orL [cmpI x1 x2,cmpI a.la b.la,Bl.cmp a.nm b.nm]=r at *
 generalize cmpI x1 x2=y1 at *
 generalize cmpI a.la b.la=y2 at *
 generalize Bl.cmp a.nm b.nm=y3 at *
 simp(disch:=apply zq;omega) only[go_sem,simprocAttr,↓Nat.reduceEqDiff,xx,fd81,m81,c1,c2,c3,c4,c5,c6]
theorem z6c [Nonempty (H.GlK gl)](h:12<=n){S:Sf}{q:Fl}{jk:List AV}(hk:KOk S){a b:Ob}(ha:a.nm.length<=5000)(hb:b.nm.length<=5000){tot:Int}{m:Mem}(hm:MOk (cnt S) m.1) :
  call gl tab n 81 [.ptr 100000 [],oV a,oV b] [(100000,.fix shX (XB S q tot)),(100001,.grow sO (hs S.H++jk)),(100002,.mp (esN m.1) m.2)] =
   some (i64 (les S a b),[(100000,.fix shX (XB S q tot)),(100001,.grow sO (hs S.H++jk)),(100002,.mp (esN (ask2 S a b m).1) (ask2 S a b m).2)],[]):=by
 obtain⟨d,rfl⟩:=wB h
 have c1:=@zf0 gl (d+11) _ (by omega) S q jk hk a.nm ha tot m hm
 have c2:=@zf0 gl (d+11) _ (by omega) S q jk hk b.nm hb tot (Mp.ask (cnt S) a.nm m) hm.ask
 have c3:=@zpw gl (d+11) (by omega) (cnt S a.nm) (cnt S b.nm)
 have c4:=@zpw gl (d+11) (by omega) a.la b.la
 have c5:=@zt7 gl (d+11) (by omega) a.nm b.nm
 have c6:=fun f=>@qge gl (d+11) (by omega) f [cmpI (cnt S a.nm) (cnt S b.nm),cmpI a.la b.la,Bl.cmp a.nm b.nm] (by simp)
 unfold ask2 les
 simp only[<-ns3]at c6
 rw[za5 (fd:=fd81) rfl]
 generalize Mp.ask (cnt S) b.nm (Mp.ask (cnt S) a.nm m)=m2 at *
 generalize Mp.ask (cnt S) a.nm m=m1 at *
 generalize cnt S a.nm=x1 at *
 generalize cnt S b.nm=x2 at *
 generalize orL [cmpI x1 x2,cmpI a.la b.la,Bl.cmp a.nm b.nm]=r at *
 generalize cmpI x1 x2=y1 at *
 generalize cmpI a.la b.la=y2 at *
 generalize Bl.cmp a.nm b.nm=y3 at *
 simp(disch:=apply zq;omega) only[go_sem,simprocAttr,↓Nat.reduceEqDiff,xx,fd81,m81,c1,c2,c3,c4,c5,c6]
end Go.Proofs.S97
