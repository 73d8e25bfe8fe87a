/-
  Chapter 17: a tenant's place; numbers compared. No condition.
-/
import Derived.Test.YthipjfnealbheaaDoorW17G20x3
set_option linter.all false
open Nat renaming exists_eq_add_of_le'->wB,lt_trichotomy->wC
namespace Go.Proofs.S17
open Go Go.Ev Go.Proofs Go.Proofs.S17.Q
variable {gl :Gl} {n:Nat}
def Tn (l:List A3):Prop:=∀i,i<l.length->(aat l i).t<=9223372036854775807
abbrev I64 (q:Int):Prop:=-9223372036854775808<=q/\q<=9223372036854775807
theorem place_at (h:3<=n){l:List A3}(hv:VA l)(ht:Tn l){q:Int}(hq:I64 q) :
  ∃(k:Nat) (b:Bool),k<=l.length/\(b=true->k<l.length/\(aat l k).t=q)/\(b=false->∀j,j<l.length->(aat l j).t≠q) /\
   call gl tab n 58 [.lst false sA (ac l),i64 q] []=some (.tup [i64 k,.bool b],[],[]):=by
 obtain⟨d,rfl⟩:=wB h
 have hn:=hv.n
 obtain⟨k,hk,hp,b,hb,c46⟩:=@zx7 gl (d+2) (by omega) false sA l (.inr rfl) hv ht q hq
 have hk2:b=true->k<l.length/\(aat l k).t=q:=fun h=>by
  obtain⟨j,hj,hj2⟩:=hb.1 h
  have h0:0<q:=by have:=zeu hv hj;omega
  have p:=hp h0
  rcases wC j k with h3|h3|h3
  . have:=p.lo j h3;omega
  . subst h3;exact⟨hj,hj2⟩
  . have:=zh1 hv h3 hj
    have:=p.hi k (Nat.le_refl _) (by omega);omega
 refine⟨k,b,hk,hk2,(fun h j hj h'=>by have:=hb.2 ⟨j,hj,h'⟩;rw[h]at this;cases this),?_⟩
 rw[zah (fd:=fd58) rfl]
 simp(disch:=apply zq;omega) only[go_sem,simprocAttr,↓Nat.reduceEqDiff,xx,fd58,m58,c46]
theorem zkl {l:List A3}(hv:VA l){i j:Nat}(hi:i<l.length)(hj:j<l.length)(e:(aat l i).t=(aat l j).t):i=j:=by
 rcases wC i j with h|h|h
 . have:=zh1 hv h hj;omega
 . exact h
 . have:=zh1 hv h hi;omega
theorem zrk (h:6<=n){l:List A3}(hv:VA l)(ht:Tn l){q v:Int}(hq:I64 q){k:Nat}(hk:k<l.length)(hkq:(aat l k).t=q)(he:uerr l k v true=0) :
  call gl tab n 41 [.lst false sA (ac l),i64 q,i64 v] []=some (.tup [.lst false sA (ac (updA l k v)),i64 0],[],[]):=by
 obtain⟨k',b,h1,h2,h3,c⟩:=@place_at gl (n-1) (by omega) l hv ht q hq
 cases b with
 | false=>exact absurd hkq (h3 rfl k hk)
 | true =>
   obtain⟨h4,h5⟩:=h2 rfl
   obtain rfl:=zkl hv hk h4 (hkq.trans h5.symm)
   exact qb5 h hv hk he c
def cmpI (a b:Int):Int:=if a<b then -1 else if b<a then 1 else 0
theorem zy4 (h:1<=n)(a:Int):call gl tab n 84 [i64 a] []=some (.bool false,[],[]):=by
 obtain⟨d,rfl⟩:=wB h
 have e:(a != a)=false:=by simp
 rw[zah (fd:=fd84) rfl]
 simp(disch:=apply zq;omega) only[go_sem,simprocAttr,↓Nat.reduceEqDiff,xx,fd84,m84,e]
theorem zo3 (h:2<=n)(a b:Int):call gl tab n 78 [i64 a,i64 b] []=some (i64 (cmpI a b),[],[]):=by
 obtain⟨d,rfl⟩:=wB h
 have c1:=@zy4 gl (d+1) (by omega) a
 have c2:=@zy4 gl (d+1) (by omega) b
 rw[zah (fd:=fd78) rfl]
 by_cases h1:a<b
 . have e1:cmpI a b=-1:=by rw[cmpI,if_pos h1]
   simp(disch:=apply zq;omega) only[go_sem,simprocAttr,↓Nat.reduceEqDiff,xx,fd78,m78,c1,c2,e1]
 . by_cases h2:b<a
   . have e1:cmpI a b=1:=by rw[cmpI,if_neg h1,if_pos h2]
     simp(disch:=apply zq;omega) only[go_sem,simprocAttr,↓Nat.reduceEqDiff,xx,fd78,m78,c1,c2,e1]
   . have e1:cmpI a b=0:=by rw[cmpI,if_neg h1,if_neg h2]
     simp(disch:=apply zq;omega) only[go_sem,simprocAttr,↓Nat.reduceEqDiff,xx,fd78,m78,c1,c2,e1]
def orL :List Int->Int
 | []=>0
 | x::r=>if x=0 then orL r else x
theorem zy0 :∀{l:List Int},(∀i,i<l.length->nat l i=0)->orL l=0
 | [],_=>rfl
 | x::r,h=>by
   have h0:x=0:=h 0 (by simp)
   rw[orL,if_pos h0]
   exact zy0 fun i hi=>h (i+1) (by simpa using hi)
theorem zqb :∀{l:List Int} {k:Nat},k<l.length->(∀i,i<k->nat l i=0)->nat l k≠0->orL l=nat l k
 | [],k,hk,_,_=>by simp at hk
 | x::r,0,_,_,h=>by
   have:x≠0:=h
   rw[orL,if_neg this];rfl
 | x::r,k+1,hk,hz,h=>by
   have h0:x=0:=hz 0 (by omega)
   rw[orL,if_pos h0]
   exact zqb (l:=r) (k:=k) (by simpa using hk) (fun i hi=>hz (i+1) (by omega)) h
def L77 :MC:=match m77 with| .seq _ (.seq _ (.seq (.seq _ (.block _ (.loop _ b))) _))=>b|_=>.skip
def S77 (f:Bool)(l:List Int)(i:Nat):St:=⟨[.set 8 (i64 i),.set 7 (i64 l.length),.set 6 (.lst f .sc (ns l)),.set 3 (i64 0)],[]⟩
theorem qda (h:1<=n){f:Bool}{l:List Int}(hl:l.length<2^20):call gl tab n 77 [.lst f .sc (ns l)] []=some (i64 (orL l),[],[]):=by
 obtain⟨d,rfl⟩:=wB h
 have hst:∀i,i<l.length->nat l i=0->zbn [.slot 3,.slot 6,.slot 7,.slot 8] (evC gl (call gl tab d) L77 (S77 f l i))=some (S77 f l (i+1)):=fun i hi hp=>by
  have hx:=ns_at hi
  rw[hp]at hx
  simp(disch:=apply zq;omega) only[go_sem,simprocAttr,↓Nat.reduceEqDiff,xx,L77,m77,S77,ns_length,hx]
 have hf:∀i,i<l.length->¬nat l i=0->out1 2 (evC gl (call gl tab d) L77 (S77 f l i))=some (.ret,i64 (nat l i)):=fun i hi hp=>by
  have hx:=ns_at hi
  have e:(nat l i != 0)=true:=by simpa using hp
  simp(disch:=apply zq;omega) only[go_sem,simprocAttr,↓Nat.reduceEqDiff,xx,L77,m77,S77,ns_length,hx,e]
 rw[zah (fd:=fd77) rfl]
 rcases first_fail (fun i=>nat l i=0) l.length with ha|⟨k,hk,hb,he⟩
 . have hs2:=fun i hi=>hst i hi (ha i hi)
   simp only[L77,m77]at hs2
   rw[zy0 ha]
   simp(disch:=apply zq;omega) only[go_sem,simprocAttr,↓Nat.reduceEqDiff,xx,fd77,m77,ns_length]
   rw[zam (S77 f l) l.length (by unfold LF;omega)]
   . simp(disch:=apply zq;omega) only[go_sem,simprocAttr,↓Nat.reduceEqDiff,xx,S77,ns_length]
   . simp(disch:=apply zq;omega) only[go_sem,simprocAttr,↓Nat.reduceEqDiff,xx,S77,ns_length]
   . exact hs2
   . simp(disch:=apply zq;omega) only[go_sem,simprocAttr,↓Nat.reduceEqDiff,xx,S77,ns_length]
 . obtain⟨st,hst',hg⟩:=zcv (hf k hk he)
   have hs2:=fun i (hi:i<k)=>hst i (by omega) (hb i hi)
   simp only[L77,m77]at hs2 hst'
   rw[zqb hk hb he]
   simp(disch:=apply zq;omega) only[go_sem,simprocAttr,↓Nat.reduceEqDiff,xx,fd77,m77,ns_length]
   rw[zam (S77 f l) k (by unfold LF;omega),hst']
   . simp(disch:=apply zq;omega) only[go_sem,simprocAttr,↓Nat.reduceEqDiff,xx,hg]
   . simp(disch:=apply zq;omega) only[go_sem,simprocAttr,↓Nat.reduceEqDiff,xx,S77,ns_length]
   . exact hs2
   . rw[hst'];rfl
end Go.Proofs.S17
namespace Go.Proofs.S17
open Go Go.Ev Go.Proofs Go.Proofs.S17.Q
variable {gl :Gl} {n:Nat}
open Go.Mp (esN fN MOk)
abbrev shX :Sh:=.st [.st [.sc,.sc,.sc,.st [.sc,.sc,.sc,.sc]],.sc,.sc]
def cnt (S:Sf)(x:List UInt8):Int:=K.lea S.L (K.pl x S.w.toNat) 4
abbrev Mem :=List (List UInt8×Int×Nat)×Nat
theorem zu0 (h:2<=n){S:Sf}{q:Fl}(hq:FlOk S q)(hv:VA S.A) :
  call gl tab n 36 [sfV S q] []=some (.ptr 20000 [],[],[.fix shX (.aggR [.agg [i64 S.c,.lst q.fa q.ma (ac S.A),.lst q.fh q.mh (hs S.H),skV S q],i64 (sumU S.A S.A.length),.mp 20001]),.mp [] 0]):=by
 obtain⟨d,rfl⟩:=wB h
 have c1:=@zno gl (d+1) (by omega) q.fa q.ma S.A hq.a hv
 rw[zbe (fd:=fd36) rfl]
 simp(disch:=apply zq;omega) only[go_sem,simprocAttr,↓Nat.reduceEqDiff,xx,fd36,m36,c1]
structure KOk (S:Sf):Prop where
 w:1<=S.w/\S.w<=4096
 l:(S.L.length:Int)=4*S.w
theorem zu1 {f:List UInt8->Int}{x:List UInt8}{m:Mem}{p:Nat×Int}(h:fN x m.1=some p):Mp.ask f x m=m:=by unfold Mp.ask;rw[h]
theorem zu2 {f:List UInt8->Int}{x:List UInt8}{m:Mem}(h:fN x m.1=none):Mp.ask f x m=(m.1++[(x,f x,m.2)],m.2+1):=by unfold Mp.ask;rw[h]
theorem z60 [Nonempty (H.GlK gl)](h:10<=n){S:Sf}{q:Fl}(hk:KOk S){x:List UInt8}(hx:x.length<=5000):call gl tab n 67 [skV S q,.str x] []=some (i64 (cnt S x),[],[]):=by
 have e:((S.w.toNat:Nat):Int)=S.w:=by have:=hk.w;omega
 have hw:=hk.w
 have hl:=hk.l
 have:=@K.count_at gl n _ h x hx S.w.toNat (by omega) S.s S.a q.fl S.L (by omega)
 rw[e]at this
 exact this
abbrev XA (S:Sf)(q:Fl)(tot:Int):AV:=.aggR [.agg [i64 S.c,.lst q.fa q.ma (ac S.A),.lst q.fh q.mh (hs S.H),skV S q],i64 tot,.mp 100001]
abbrev XB (S:Sf)(q:Fl)(tot:Int):AV:=.aggR [.aggR [i64 S.c,.lst q.fa q.ma (ac S.A),.sl 100001 [] 0 S.H.length,skV S q],i64 tot,.mp 100002]
theorem zq0 [Nonempty (H.GlK gl)](h:11<=n){S:Sf}{q:Fl}(hk:KOk S){x:List UInt8}(hx:x.length<=5000){tot:Int}{m:Mem}(hm:MOk (cnt S) m.1) :
  call gl tab n 52 [.ptr 100000 [],.str x] [(100000,.fix shX (XA S q tot)),(100001,.mp (esN m.1) m.2)] =
   some (i64 (cnt S x),[(100000,.fix shX (XA S q tot)),(100001,.mp (esN (Mp.ask (cnt S) x m).1) (Mp.ask (cnt S) x m).2)],[]):=by
 obtain⟨d,rfl⟩:=wB h
 have c1:=@z60 gl (d+10) _ (by omega) S q hk x hx
 have c2:=Mp.find_esN x m.1
 rw[zbe (fd:=fd52) rfl]
 cases hf:fN x m.1 with
 | some p =>
   obtain⟨j,v⟩:=p
   obtain⟨e,he,e1,e2⟩:=Mp.fN_some hf
   have e3:=hm e he
   rw[e1,e2]at e3
   subst e3
   rw[zu1 hf]
   rw[hf]at c2
   simp only[Option.map_some]at c2
   generalize cnt S x=cv at *
   simp(disch:=apply zq;omega) only[go_sem,simprocAttr,↓Nat.reduceEqDiff,xx,fd52,m52,c1,c2]
 | none =>
   rw[zu2 hf]
   rw[hf]at c2
   simp only[Option.map_none]at c2
   have c3:=Mp.esN_app m.1 x (cnt S x) m.2
   generalize cnt S x=cv at *
   simp(disch:=apply zq;omega) only[go_sem,simprocAttr,↓Nat.reduceEqDiff,xx,fd52,m52,c1,c2,c3]
theorem zfm [Nonempty (H.GlK gl)](h:11<=n){S:Sf}{q:Fl}{jk:List AV}(hk:KOk S){x:List UInt8}(hx:x.length<=5000){tot:Int}{m:Mem}(hm:MOk (cnt S) m.1) :
  call gl tab n 52 [.ptr 100000 [],.str x] [(100000,.fix shX (XB S q tot)),(100001,.grow sO (hs S.H++jk)),(100002,.mp (esN m.1) m.2)] =
   some (i64 (cnt S x),[(100000,.fix shX (XB S q tot)),(100001,.grow sO (hs S.H++jk)),(100002,.mp (esN (Mp.ask (cnt S) x m).1) (Mp.ask (cnt S) x m).2)],[]):=by
 obtain⟨d,rfl⟩:=wB h
 have c1:=@z60 gl (d+10) _ (by omega) S q hk x hx
 have c2:=Mp.find_esN x m.1
 rw[zbe (fd:=fd52) rfl]
 cases hf:fN x m.1 with
 | some p =>
   obtain⟨j,v⟩:=p
   obtain⟨e,he,e1,e2⟩:=Mp.fN_some hf
   have e3:=hm e he
   rw[e1,e2]at e3
   subst e3
   rw[zu1 hf]
   rw[hf]at c2
   simp only[Option.map_some]at c2
   generalize cnt S x=cv at *
   simp(disch:=apply zq;omega) only[go_sem,simprocAttr,↓Nat.reduceEqDiff,xx,fd52,m52,c1,c2]
 | none =>
   rw[zu2 hf]
   rw[hf]at c2
   simp only[Option.map_none]at c2
   have c3:=Mp.esN_app m.1 x (cnt S x) m.2
   generalize cnt S x=cv at *
   simp(disch:=apply zq;omega) only[go_sem,simprocAttr,↓Nat.reduceEqDiff,xx,fd52,m52,c1,c2,c3]
def les (S:Sf)(a b:Ob):Int:=orL [cmpI (cnt S a.nm) (cnt S b.nm),cmpI a.la b.la,Bl.cmp a.nm b.nm]
def ask2 (S:Sf)(a b:Ob)(m:Mem):Mem:=Mp.ask (cnt S) b.nm (Mp.ask (cnt S) a.nm m)
theorem z2d {S:Sf}{a b:Ob}{m:Mem}(h:MOk (cnt S) m.1):MOk (cnt S) (ask2 S a b m).1:=h.ask.ask
theorem ns3 (a b c:Int):[i64 a,i64 b,i64 c]=ns [a,b,c]:=rfl
theorem z4b [Nonempty (H.GlK gl)](h:12<=n){S:Sf}{q:Fl}(hk:KOk S){a b:Ob}(ha:a.nm.length<=5000)(hb:b.nm.length<=5000){tot:Int}{m:Mem}(hm:MOk (cnt S) m.1) :
  call gl tab n 66 [.ptr 100000 [],oV a,oV b] [(100000,.fix shX (XA S q tot)),(100001,.mp (esN m.1) m.2)] =
   some (i64 (les S a b),[(100000,.fix shX (XA S q tot)),(100001,.mp (esN (ask2 S a b m).1) (ask2 S a b m).2)],[]):=by
 obtain⟨d,rfl⟩:=wB h
 have c1:=@zq0 gl (d+11) _ (by omega) S q hk a.nm ha tot m hm
 have c2:=@zq0 gl (d+11) _ (by omega) S q hk b.nm hb tot (Mp.ask (cnt S) a.nm m) hm.ask
 have c3:=@zo3 gl (d+11) (by omega) (cnt S a.nm) (cnt S b.nm)
 have c4:=@zo3 gl (d+11) (by omega) a.la b.la
 have c5:=@zs1 gl (d+11) (by omega) a.nm b.nm
 have c6:=fun f=>@qda gl (d+11) (by omega) f [cmpI (cnt S a.nm) (cnt S b.nm),cmpI a.la b.la,Bl.cmp a.nm b.nm] (by simp)
 unfold ask2 les
 simp only[<-ns3]at c6
 rw[zbe (fd:=fd66) rfl]
 generalize Mp.ask (cnt S) b.nm (Mp.ask (cnt S) a.nm m)=m2 at *
 generalize Mp.ask (cnt S) a.nm m=m1 at *
 generalize cnt S a.nm=x1 at *
 generalize cnt S b.nm=x2 at *
 generalize orL [cmpI x1 x2,cmpI a.la b.la,Bl.cmp a.nm b.nm]=r at *
 generalize cmpI x1 x2=y1 at *
 generalize cmpI a.la b.la=y2 at *
 generalize Bl.cmp a.nm b.nm=y3 at *
 simp(disch:=apply zq;omega) only[go_sem,simprocAttr,↓Nat.reduceEqDiff,xx,fd66,m66,c1,c2,c3,c4,c5,c6]
theorem z4a [Nonempty (H.GlK gl)](h:12<=n){S:Sf}{q:Fl}{jk:List AV}(hk:KOk S){a b:Ob}(ha:a.nm.length<=5000)(hb:b.nm.length<=5000){tot:Int}{m:Mem}(hm:MOk (cnt S) m.1) :
  call gl tab n 66 [.ptr 100000 [],oV a,oV b] [(100000,.fix shX (XB S q tot)),(100001,.grow sO (hs S.H++jk)),(100002,.mp (esN m.1) m.2)] =
   some (i64 (les S a b),[(100000,.fix shX (XB S q tot)),(100001,.grow sO (hs S.H++jk)),(100002,.mp (esN (ask2 S a b m).1) (ask2 S a b m).2)],[]):=by
 obtain⟨d,rfl⟩:=wB h
 have c1:=@zfm gl (d+11) _ (by omega) S q jk hk a.nm ha tot m hm
 have c2:=@zfm gl (d+11) _ (by omega) S q jk hk b.nm hb tot (Mp.ask (cnt S) a.nm m) hm.ask
 have c3:=@zo3 gl (d+11) (by omega) (cnt S a.nm) (cnt S b.nm)
 have c4:=@zo3 gl (d+11) (by omega) a.la b.la
 have c5:=@zs1 gl (d+11) (by omega) a.nm b.nm
 have c6:=fun f=>@qda gl (d+11) (by omega) f [cmpI (cnt S a.nm) (cnt S b.nm),cmpI a.la b.la,Bl.cmp a.nm b.nm] (by simp)
 unfold ask2 les
 simp only[<-ns3]at c6
 rw[zbe (fd:=fd66) rfl]
 generalize Mp.ask (cnt S) b.nm (Mp.ask (cnt S) a.nm m)=m2 at *
 generalize Mp.ask (cnt S) a.nm m=m1 at *
 generalize cnt S a.nm=x1 at *
 generalize cnt S b.nm=x2 at *
 generalize orL [cmpI x1 x2,cmpI a.la b.la,Bl.cmp a.nm b.nm]=r at *
 generalize cmpI x1 x2=y1 at *
 generalize cmpI a.la b.la=y2 at *
 generalize Bl.cmp a.nm b.nm=y3 at *
 simp(disch:=apply zq;omega) only[go_sem,simprocAttr,↓Nat.reduceEqDiff,xx,fd66,m66,c1,c2,c3,c4,c5,c6]
end Go.Proofs.S17
