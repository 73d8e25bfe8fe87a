/-
  Chapter 17: a search: how often a name was asked for; what is worth less. No condition.
-/
import Derived.Test.YthipjfnealbheaaDoorW17G19x4
set_option linter.all false
open Nat renaming exists_eq_add_of_le'->wB
namespace Go.Proofs.S17
open Go Go.Ev Go.Proofs Go.Proofs.S17.Q
variable {gl :Gl} {n:Nat}
open Go.Mp (esN fN MOk)
abbrev shX :Sh:=.st [.st [.sc,.sc,.sc,.st [.sc,.sc,.sc,.sc]],.sc,.sc]
def cnt (S:Sf)(x:List UInt8):Int:=K.lea S.L (K.pl x S.w.toNat) 4
abbrev Mem :=List (List UInt8×Int×Nat)×Nat
theorem zpk (h:2<=n){S:Sf}{q:Fl}(hq:FlOk S q)(hv:VA S.A) :
  call gl tab n 36 [sfV S q] []=some (.ptr 20000 [],[],[.fix shX (.aggR [.agg [i64 S.c,.lst q.fa q.ma (ac S.A),.lst q.fh q.mh (hs S.H),skV S q],i64 (sumU S.A S.A.length),.mp 20001]),.mp [] 0]):=by
 obtain⟨d,rfl⟩:=wB h
 have c1:=@znx gl (d+1) (by omega) q.fa q.ma S.A hq.a hv
 rw[zbe (fd:=fd36) rfl]
 simp(disch:=apply zq;omega) only[go_sem,simprocAttr,↓Nat.reduceEqDiff,xx,fd36,m36,c1]
structure KOk (S:Sf):Prop where
 w:1<=S.w/\S.w<=4096
 l:(S.L.length:Int)=4*S.w
theorem zvf {f:List UInt8->Int}{x:List UInt8}{m:Mem}{p:Nat×Int}(h:fN x m.1=some p):Mp.ask f x m=m:=by unfold Mp.ask;rw[h]
theorem zvg {f:List UInt8->Int}{x:List UInt8}{m:Mem}(h:fN x m.1=none):Mp.ask f x m=(m.1++[(x,f x,m.2)],m.2+1):=by unfold Mp.ask;rw[h]
theorem z7s [Nonempty (H.GlK gl)](h:10<=n){S:Sf}{q:Fl}(hk:KOk S){x:List UInt8}(hx:x.length<=5000):call gl tab n 67 [skV S q,.str x] []=some (i64 (cnt S x),[],[]):=by
 have e:((S.w.toNat:Nat):Int)=S.w:=by have:=hk.w;omega
 have hw:=hk.w
 have hl:=hk.l
 have:=@K.count_at gl n _ h x hx S.w.toNat (by omega) S.s S.a q.fl S.L (by omega)
 rw[e]at this
 exact this
abbrev XA (S:Sf)(q:Fl)(tot:Int):AV:=.aggR [.agg [i64 S.c,.lst q.fa q.ma (ac S.A),.lst q.fh q.mh (hs S.H),skV S q],i64 tot,.mp 100001]
abbrev XB (S:Sf)(q:Fl)(tot:Int):AV:=.aggR [.aggR [i64 S.c,.lst q.fa q.ma (ac S.A),.sl 100001 [] 0 S.H.length,skV S q],i64 tot,.mp 100002]
theorem zrd [Nonempty (H.GlK gl)](h:11<=n){S:Sf}{q:Fl}(hk:KOk S){x:List UInt8}(hx:x.length<=5000){tot:Int}{m:Mem}(hm:MOk (cnt S) m.1) :
  call gl tab n 52 [.ptr 100000 [],.str x] [(100000,.fix shX (XA S q tot)),(100001,.mp (esN m.1) m.2)] =
   some (i64 (cnt S x),[(100000,.fix shX (XA S q tot)),(100001,.mp (esN (Mp.ask (cnt S) x m).1) (Mp.ask (cnt S) x m).2)],[]):=by
 obtain⟨d,rfl⟩:=wB h
 have c1:=@z7s gl (d+10) _ (by omega) S q hk x hx
 have c2:=Mp.find_esN x m.1
 rw[zbe (fd:=fd52) rfl]
 cases hf:fN x m.1 with
 | some p =>
   obtain⟨j,v⟩:=p
   obtain⟨e,he,e1,e2⟩:=Mp.fN_some hf
   have e3:=hm e he
   rw[e1,e2]at e3
   subst e3
   rw[zvf hf]
   rw[hf]at c2
   simp only[Option.map_some]at c2
   generalize cnt S x=cv at *
   simp(disch:=apply zq;omega) only[go_sem,simprocAttr,↓Nat.reduceEqDiff,xx,fd52,m52,c1,c2]
 | none =>
   rw[zvg hf]
   rw[hf]at c2
   simp only[Option.map_none]at c2
   have c3:=Mp.esN_app m.1 x (cnt S x) m.2
   generalize cnt S x=cv at *
   simp(disch:=apply zq;omega) only[go_sem,simprocAttr,↓Nat.reduceEqDiff,xx,fd52,m52,c1,c2,c3]
theorem zfr [Nonempty (H.GlK gl)](h:11<=n){S:Sf}{q:Fl}{jk:List AV}(hk:KOk S){x:List UInt8}(hx:x.length<=5000){tot:Int}{m:Mem}(hm:MOk (cnt S) m.1) :
  call gl tab n 52 [.ptr 100000 [],.str x] [(100000,.fix shX (XB S q tot)),(100001,.grow sO (hs S.H++jk)),(100002,.mp (esN m.1) m.2)] =
   some (i64 (cnt S x),[(100000,.fix shX (XB S q tot)),(100001,.grow sO (hs S.H++jk)),(100002,.mp (esN (Mp.ask (cnt S) x m).1) (Mp.ask (cnt S) x m).2)],[]):=by
 obtain⟨d,rfl⟩:=wB h
 have c1:=@z7s gl (d+10) _ (by omega) S q hk x hx
 have c2:=Mp.find_esN x m.1
 rw[zbe (fd:=fd52) rfl]
 cases hf:fN x m.1 with
 | some p =>
   obtain⟨j,v⟩:=p
   obtain⟨e,he,e1,e2⟩:=Mp.fN_some hf
   have e3:=hm e he
   rw[e1,e2]at e3
   subst e3
   rw[zvf hf]
   rw[hf]at c2
   simp only[Option.map_some]at c2
   generalize cnt S x=cv at *
   simp(disch:=apply zq;omega) only[go_sem,simprocAttr,↓Nat.reduceEqDiff,xx,fd52,m52,c1,c2]
 | none =>
   rw[zvg hf]
   rw[hf]at c2
   simp only[Option.map_none]at c2
   have c3:=Mp.esN_app m.1 x (cnt S x) m.2
   generalize cnt S x=cv at *
   simp(disch:=apply zq;omega) only[go_sem,simprocAttr,↓Nat.reduceEqDiff,xx,fd52,m52,c1,c2,c3]
def les (S:Sf)(a b:Ob):Int:=orL [cmpI (cnt S a.nm) (cnt S b.nm),cmpI a.la b.la,Bl.cmp a.nm b.nm]
def ask2 (S:Sf)(a b:Ob)(m:Mem):Mem:=Mp.ask (cnt S) b.nm (Mp.ask (cnt S) a.nm m)
theorem z21 {S:Sf}{a b:Ob}{m:Mem}(h:MOk (cnt S) m.1):MOk (cnt S) (ask2 S a b m).1:=h.ask.ask
theorem ns3 (a b c:Int):[i64 a,i64 b,i64 c]=ns [a,b,c]:=rfl
theorem z40 [Nonempty (H.GlK gl)](h:12<=n){S:Sf}{q:Fl}(hk:KOk S){a b:Ob}(ha:a.nm.length<=5000)(hb:b.nm.length<=5000){tot:Int}{m:Mem}(hm:MOk (cnt S) m.1) :
  call gl tab n 66 [.ptr 100000 [],oV a,oV b] [(100000,.fix shX (XA S q tot)),(100001,.mp (esN m.1) m.2)] =
   some (i64 (les S a b),[(100000,.fix shX (XA S q tot)),(100001,.mp (esN (ask2 S a b m).1) (ask2 S a b m).2)],[]):=by
 obtain⟨d,rfl⟩:=wB h
 have c1:=@zrd gl (d+11) _ (by omega) S q hk a.nm ha tot m hm
 have c2:=@zrd gl (d+11) _ (by omega) S q hk b.nm hb tot (Mp.ask (cnt S) a.nm m) hm.ask
 have c3:=@zpe gl (d+11) (by omega) (cnt S a.nm) (cnt S b.nm)
 have c4:=@zpe gl (d+11) (by omega) a.la b.la
 have c5:=@ztc gl (d+11) (by omega) a.nm b.nm
 have c6:=fun f=>@qd8 gl (d+11) (by omega) f [cmpI (cnt S a.nm) (cnt S b.nm),cmpI a.la b.la,Bl.cmp a.nm b.nm] (by simp)
 unfold ask2 les
 simp only[<-ns3]at c6
 rw[zbe (fd:=fd66) rfl]
 generalize Mp.ask (cnt S) b.nm (Mp.ask (cnt S) a.nm m)=m2 at *
 generalize Mp.ask (cnt S) a.nm m=m1 at *
 generalize cnt S a.nm=x1 at *
 generalize cnt S b.nm=x2 at *
 generalize orL [cmpI x1 x2,cmpI a.la b.la,Bl.cmp a.nm b.nm]=r at *
 generalize cmpI x1 x2=y1 at *
 generalize cmpI a.la b.la=y2 at *
 generalize Bl.cmp a.nm b.nm=y3 at *
 simp(disch:=apply zq;omega) only[go_sem,simprocAttr,↓Nat.reduceEqDiff,xx,fd66,m66,c1,c2,c3,c4,c5,c6]
theorem z4z [Nonempty (H.GlK gl)](h:12<=n){S:Sf}{q:Fl}{jk:List AV}(hk:KOk S){a b:Ob}(ha:a.nm.length<=5000)(hb:b.nm.length<=5000){tot:Int}{m:Mem}(hm:MOk (cnt S) m.1) :
  call gl tab n 66 [.ptr 100000 [],oV a,oV b] [(100000,.fix shX (XB S q tot)),(100001,.grow sO (hs S.H++jk)),(100002,.mp (esN m.1) m.2)] =
   some (i64 (les S a b),[(100000,.fix shX (XB S q tot)),(100001,.grow sO (hs S.H++jk)),(100002,.mp (esN (ask2 S a b m).1) (ask2 S a b m).2)],[]):=by
 obtain⟨d,rfl⟩:=wB h
 have c1:=@zfr gl (d+11) _ (by omega) S q jk hk a.nm ha tot m hm
 have c2:=@zfr gl (d+11) _ (by omega) S q jk hk b.nm hb tot (Mp.ask (cnt S) a.nm m) hm.ask
 have c3:=@zpe gl (d+11) (by omega) (cnt S a.nm) (cnt S b.nm)
 have c4:=@zpe gl (d+11) (by omega) a.la b.la
 have c5:=@ztc gl (d+11) (by omega) a.nm b.nm
 have c6:=fun f=>@qd8 gl (d+11) (by omega) f [cmpI (cnt S a.nm) (cnt S b.nm),cmpI a.la b.la,Bl.cmp a.nm b.nm] (by simp)
 unfold ask2 les
 simp only[<-ns3]at c6
 rw[zbe (fd:=fd66) rfl]
 generalize Mp.ask (cnt S) b.nm (Mp.ask (cnt S) a.nm m)=m2 at *
 generalize Mp.ask (cnt S) a.nm m=m1 at *
 generalize cnt S a.nm=x1 at *
 generalize cnt S b.nm=x2 at *
 generalize orL [cmpI x1 x2,cmpI a.la b.la,Bl.cmp a.nm b.nm]=r at *
 generalize cmpI x1 x2=y1 at *
 generalize cmpI a.la b.la=y2 at *
 generalize Bl.cmp a.nm b.nm=y3 at *
 simp(disch:=apply zq;omega) only[go_sem,simprocAttr,↓Nat.reduceEqDiff,xx,fd66,m66,c1,c2,c3,c4,c5,c6]
end Go.Proofs.S17
namespace Go.Proofs.S17
open Go Go.Ev Go.Proofs Go.Proofs.S17.Q
variable {gl :Gl} {n:Nat}
open Go.Mp (esN fN MOk)
abbrev XA1 (S:Sf)(q:Fl)(tot:Int):AV:=.aggR [.agg [i64 S.c,.lst q.fa q.ma (ac S.A),.lst q.fh q.mh (hs S.H),skV S q],i64 tot,.mp 100002]
abbrev XB1 (S:Sf)(q:Fl)(tot:Int):AV:=.aggR [.aggR [i64 S.c,.lst q.fa q.ma (ac S.A),.sl 100002 [] 0 S.H.length,skV S q],i64 tot,.mp 100003]
def mst (S:Sf)(W:List Ob)(m:Mem):Nat->Nat×Mem
 | 0=>(0,m)
 | i+1=>(if les S (oat W (i+1)) (oat W (mst S W m i).1)<0 then i+1 else(mst S W m i).1,ask2 S (oat W (i+1)) (oat W (mst S W m i).1) (mst S W m i).2)
theorem zt9 (S:Sf)(W:List Ob)(m:Mem):∀i,(mst S W m i).1<=i
 | 0=>Nat.le_refl _
 | i+1=>by
   have:=zt9 S W m i
   rw[mst];simp only
   split<;>omega
theorem zif {S:Sf}{W:List Ob}{m:Mem}(h:MOk (cnt S) m.1):∀i,MOk (cnt S) (mst S W m i).2.1
 | 0=>h
 | i+1=>z21 (zif h i)
theorem qaa {S:Sf}{W:List Ob}{m:Mem}{i:Nat}(h:les S (oat W (i+1)) (oat W (mst S W m i).1)<0):mst S W m (i+1)=(i+1,ask2 S (oat W (i+1)) (oat W (mst S W m i).1) (mst S W m i).2):=by rw[mst,if_pos h]
theorem qem {S:Sf}{W:List Ob}{m:Mem}{i:Nat}(h:¬les S (oat W (i+1)) (oat W (mst S W m i).1)<0):mst S W m (i+1)=((mst S W m i).1,ask2 S (oat W (i+1)) (oat W (mst S W m i).1) (mst S W m i).2):=by rw[mst,if_neg h]
abbrev oV0 :AV:=.agg [.str [],i64 0,i64 0,i64 0]
def L65 :MC:=match m65 with| .seq _ (.seq _ (.seq _ (.seq (.seq _ (.block _ (.loop _ b))) _)))=>b|_=>.skip
def S65A (S:Sf)(q:Fl)(tot:Int)(W:List Ob)(m:Mem)(i:Nat):St :=
 ⟨[.set 6 (i64 ((i:Int)+1)),.set 5 (.ptr 5 []),.set 4 (.ptr 4 []),.set 1 (.fn 2000066 [.ptr 100001 []]),.set 0 (.sl 100000 [] 0 W.length)],[(100002,.mp (esN (mst S W m i).2.1) (mst S W m i).2.2),(100001,.fix shX (XA1 S q tot)),(100000,.grow sO (hs W)),(5,.fix sO (oV (oat W (mst S W m i).1))),(4,.fix sO oV0)]⟩
theorem z8w [Nonempty (H.GlK gl)]{d:Nat}{S:Sf}{q:Fl}(hk:KOk S){tot:Int}{W:List Ob}(hW:∀i,i<W.length->(oat W i).nm.length<=5000)(hN:W.length<=8192){m:Mem}(hm:MOk (cnt S) m.1){i:Nat}(hi:i+1<W.length) :
  zbn [.slot 0,.slot 1,.slot 4,.slot 5,.slot 6,.key 4,.key 5] (evC gl (call gl tab (d+12)) L65 (S65A S q tot W m i))=some (S65A S q tot W m (i+1)):=by
 have hx:=zeq hi
 have hl:=zt9 S W m i
 have c1:=@z40 gl (d+12) _ (by omega) S q hk (oat W (i+1)) (oat W (mst S W m i).1) (hW _ hi) (hW _ (by omega)) tot (mst S W m i).2 (zif hm i)
 have e1:((i+1:Nat):Int)=(i:Int)+1:=by omega
 unfold S65A
 by_cases hlt:les S (oat W (i+1)) (oat W (mst S W m i).1)<0
 . rw[qaa hlt]
   generalize ask2 S (oat W (i+1)) (oat W (mst S W m i).1) (mst S W m i).2=m2 at *
   generalize les S (oat W (i+1)) (oat W (mst S W m i).1)=lv at *
   generalize oat W (mst S W m i).1=ob at *
   generalize (mst S W m i).2=m1 at *
   simp(disch:=apply zq;omega) only[go_sem,simprocAttr,↓Nat.reduceEqDiff,xx,L65,m65,zaa,hx,c1,e1]
 . rw[qem hlt]
   generalize ask2 S (oat W (i+1)) (oat W (mst S W m i).1) (mst S W m i).2=m2 at *
   generalize les S (oat W (i+1)) (oat W (mst S W m i).1)=lv at *
   generalize oat W (mst S W m i).1=ob at *
   generalize (mst S W m i).2=m1 at *
   simp(disch:=apply zq;omega) only[go_sem,simprocAttr,↓Nat.reduceEqDiff,xx,L65,m65,zaa,hx,c1,e1]
theorem qae [Nonempty (H.GlK gl)](h:13<=n){S:Sf}{q:Fl}(hk:KOk S){tot:Int}{W:List Ob}(hW:∀i,i<W.length->(oat W i).nm.length<=5000)(hN:1<=W.length/\W.length<=8192){m:Mem}(hm:MOk (cnt S) m.1) :
  call gl tab n 65 [.sl 100000 [] 0 W.length,.fn 2000066 [.ptr 100001 []]] [(100000,.grow sO (hs W)),(100001,.fix shX (XA1 S q tot)),(100002,.mp (esN m.1) m.2)] =
   some (oV (oat W (mst S W m (W.length-1)).1),[(100000,.grow sO (hs W)),(100001,.fix shX (XA1 S q tot)),(100002,.mp (esN (mst S W m (W.length-1)).2.1) (mst S W m (W.length-1)).2.2)],[]):=by
 obtain⟨d,rfl⟩:=wB h
 have hst:=fun i (hi:i<W.length-1)=>@z8w gl _ d S q hk tot W hW hN.2 m hm i (by omega)
 simp only[L65,m65]at hst
 have hx:=zeq (show 0<W.length by omega)
 have e1:((W.length-1:Nat):Int)+1=W.length:=by omega
 rw[zbe (fd:=fd65) rfl]
 simp(disch:=apply zq;omega) only[go_sem,simprocAttr,↓Nat.reduceEqDiff,xx,fd65,m65,zaa,hx]
 rw[zam (S65A S q tot W m) (W.length-1) (by unfold LF;omega)]
 . unfold S65A
   rw[e1]
   generalize oat W (mst S W m (W.length-1)).1=ob at *
   generalize (mst S W m (W.length-1)).2=m1 at *
   simp(disch:=apply zq;omega) only[go_sem,simprocAttr,↓Nat.reduceEqDiff,xx,zaa]
 . simp(disch:=apply zq;omega) only[go_sem,simprocAttr,↓Nat.reduceEqDiff,xx,S65A,mst]
 . exact hst
 . unfold S65A
   rw[e1]
   simp(disch:=apply zq;omega) only[go_sem,simprocAttr,↓Nat.reduceEqDiff,xx,zaa]
def S65B (S:Sf)(q:Fl)(jk:List AV)(tot:Int)(W:List Ob)(m:Mem)(i:Nat):St :=
 ⟨[.set 6 (i64 ((i:Int)+1)),.set 5 (.ptr 5 []),.set 4 (.ptr 4 []),.set 1 (.fn 2000066 [.ptr 100001 []]),.set 0 (.sl 100000 [] 0 W.length)],[(100003,.mp (esN (mst S W m i).2.1) (mst S W m i).2.2),(100002,.grow sO (hs S.H++jk)),(100001,.fix shX (XB1 S q tot)),(100000,.grow sO (hs W)),(5,.fix sO (oV (oat W (mst S W m i).1))),(4,.fix sO oV0)]⟩
theorem z8v [Nonempty (H.GlK gl)]{d:Nat}{S:Sf}{q:Fl}{jk:List AV}(hk:KOk S){tot:Int}{W:List Ob}(hW:∀i,i<W.length->(oat W i).nm.length<=5000)(hN:W.length<=8192){m:Mem}(hm:MOk (cnt S) m.1){i:Nat}(hi:i+1<W.length) :
  zbn [.slot 0,.slot 1,.slot 4,.slot 5,.slot 6,.key 4,.key 5] (evC gl (call gl tab (d+12)) L65 (S65B S q jk tot W m i))=some (S65B S q jk tot W m (i+1)):=by
 have hx:=zeq hi
 have hl:=zt9 S W m i
 have c1:=@z4z gl (d+12) _ (by omega) S q jk hk (oat W (i+1)) (oat W (mst S W m i).1) (hW _ hi) (hW _ (by omega)) tot (mst S W m i).2 (zif hm i)
 have e1:((i+1:Nat):Int)=(i:Int)+1:=by omega
 unfold S65B
 by_cases hlt:les S (oat W (i+1)) (oat W (mst S W m i).1)<0
 . rw[qaa hlt]
   generalize ask2 S (oat W (i+1)) (oat W (mst S W m i).1) (mst S W m i).2=m2 at *
   generalize les S (oat W (i+1)) (oat W (mst S W m i).1)=lv at *
   generalize oat W (mst S W m i).1=ob at *
   generalize (mst S W m i).2=m1 at *
   simp(disch:=apply zq;omega) only[go_sem,simprocAttr,↓Nat.reduceEqDiff,xx,L65,m65,zaa,hx,c1,e1]
 . rw[qem hlt]
   generalize ask2 S (oat W (i+1)) (oat W (mst S W m i).1) (mst S W m i).2=m2 at *
   generalize les S (oat W (i+1)) (oat W (mst S W m i).1)=lv at *
   generalize oat W (mst S W m i).1=ob at *
   generalize (mst S W m i).2=m1 at *
   simp(disch:=apply zq;omega) only[go_sem,simprocAttr,↓Nat.reduceEqDiff,xx,L65,m65,zaa,hx,c1,e1]
theorem qad [Nonempty (H.GlK gl)](h:13<=n){S:Sf}{q:Fl}{jk:List AV}(hk:KOk S){tot:Int}{W:List Ob}(hW:∀i,i<W.length->(oat W i).nm.length<=5000)(hN:1<=W.length/\W.length<=8192){m:Mem}(hm:MOk (cnt S) m.1) :
  call gl tab n 65 [.sl 100000 [] 0 W.length,.fn 2000066 [.ptr 100001 []]] [(100000,.grow sO (hs W)),(100001,.fix shX (XB1 S q tot)),(100002,.grow sO (hs S.H++jk)),(100003,.mp (esN m.1) m.2)] =
   some (oV (oat W (mst S W m (W.length-1)).1),[(100000,.grow sO (hs W)),(100001,.fix shX (XB1 S q tot)),(100002,.grow sO (hs S.H++jk)),(100003,.mp (esN (mst S W m (W.length-1)).2.1) (mst S W m (W.length-1)).2.2)],[]):=by
 obtain⟨d,rfl⟩:=wB h
 have hst:=fun i (hi:i<W.length-1)=>@z8v gl _ d S q jk hk tot W hW hN.2 m hm i (by omega)
 simp only[L65,m65]at hst
 have hx:=zeq (show 0<W.length by omega)
 have e1:((W.length-1:Nat):Int)+1=W.length:=by omega
 rw[zbe (fd:=fd65) rfl]
 simp(disch:=apply zq;omega) only[go_sem,simprocAttr,↓Nat.reduceEqDiff,xx,fd65,m65,zaa,hx]
 rw[zam (S65B S q jk tot W m) (W.length-1) (by unfold LF;omega)]
 . unfold S65B
   rw[e1]
   generalize oat W (mst S W m (W.length-1)).1=ob at *
   generalize (mst S W m (W.length-1)).2=m1 at *
   simp(disch:=apply zq;omega) only[go_sem,simprocAttr,↓Nat.reduceEqDiff,xx,zaa]
 . simp(disch:=apply zq;omega) only[go_sem,simprocAttr,↓Nat.reduceEqDiff,xx,S65B,mst]
 . exact hst
 . unfold S65B
   rw[e1]
   simp(disch:=apply zq;omega) only[go_sem,simprocAttr,↓Nat.reduceEqDiff,xx,zaa]
end Go.Proofs.S17
