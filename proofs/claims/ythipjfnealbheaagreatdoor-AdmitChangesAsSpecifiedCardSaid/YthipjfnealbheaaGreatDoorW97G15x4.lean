/-
  Chapter 17: objects; which are right; the first object of a name, of a tenant's account; what a tenant's objects have. No condition.
-/
import Derived.Test.YthipjfnealbheaaGreatDoorW97G3x4
import Derived.Test.YthipjfnealbheaaGreatDoorW97G4x4
import Derived.Test.YthipjfnealbheaaGreatDoorW97G13x4
import Derived.Test.YthipjfnealbheaaGreatDoorW97G14x4
set_option linter.all false
open Nat renaming exists_eq_add_of_le'->wB,le_refl->wC,lt_irrefl->wD
namespace Go.Proofs.S97
open Go Go.Ev Go.Proofs Go.Proofs.S97.Q
variable {gl :Gl} {n:Nat}
theorem z33 (a b:List UInt8):zjd .lss a b=some (.bool (Bl.lt a b)):=rfl
theorem qg0 (a b:List UInt8):(Op.bytesLess a b||a==b)= !Bl.lt b a:=by
 show(Bl.lt a b||a==b)= !Bl.lt b a
 rcases Bl.tri a b with h|rfl|h
 . rw[h,Bl.asymm h];rfl
 . rw[Bl.irrefl];simp
 . rw[h,Bl.asymm h]
   have:=(Bl.ne h).symm
   simpa using this
theorem z9q (a b:List UInt8):zjd .gtr a b=some (.bool (Bl.lt b a)):=by
 show some (AV.bool (!(Op.bytesLess a b||a==b)))=_
 rw[qg0,Bool.not_not]
theorem zsb (a b:List UInt8):zjd .leq a b=some (.bool (!Bl.lt b a)):=by
 show some (AV.bool (Op.bytesLess a b||a==b))=_
 rw[qg0]
structure Ob where
 nm:List UInt8
 tn:Int
 sz:Int
 la:Int
abbrev oV (o:Ob):AV:=.agg [.str o.nm,i64 o.tn,i64 o.sz,i64 o.la]
def hs (l:List Ob):List AV:=l.map oV
abbrev sO :Sh:=.st [.sc,.sc,.sc,.sc]
def oat (l:List Ob)(i:Nat):Ob:=l.getD i ⟨[],0,0,0⟩
theorem zaa (l:List Ob):(hs l).length=l.length:=by simp[hs]
theorem zdu {l:List Ob}{i:Nat}(h:i<l.length):(hs l)[i]? =some (.agg [.str (oat l i).nm,i64 (oat l i).tn,i64 (oat l i).sz,i64 (oat l i).la]):=by simp[hs,oat,h]
theorem zez :hs []=[]:=rfl
theorem zrr (l:List Ob)(s:Ob):hs (l++[s])=hs l++[.agg [.str s.nm,i64 s.tn,i64 s.sz,i64 s.la]]:=by simp[hs]
theorem zme (l:List Ob)(v:AV):(hs l++[v]).take (l.length+1)=hs l++[v]:=by rw[<-zaa];exact List.take_of_length_le (by simp)
theorem zdz (l:List Ob):(hs l).take l.length=hs l:=by rw[<-zaa];exact List.take_length
structure ROk (o:Ob):Prop where
 nl:1<=o.nm.length/\o.nm.length<=4096
 sz:1<=o.sz/\o.sz<=1099511627776
 la:0<=o.la/\o.la<=1099511627776
theorem zkw (h:1<=n)(o:Ob):∃b:Bool,(b=true↔ROk o)/\call gl tab n 51 [oV o] []=some (.bool b,[],[]):=by
 obtain⟨d,rfl⟩:=wB h
 rw[zaf (fd:=fd51) rfl]
 by_cases h1:1<=o.nm.length
 case neg=>exact⟨false,⟨(fun h=>by cases h),fun h=>absurd h.nl.1 h1⟩,by simp(disch:=apply zq;omega) only[go_sem,simprocAttr,↓Nat.reduceEqDiff,xx,fd51,m51]⟩
 by_cases h2:o.nm.length<=4096
 case neg=>exact⟨false,⟨(fun h=>by cases h),fun h=>absurd h.nl.2 h2⟩,by simp(disch:=apply zq;omega) only[go_sem,simprocAttr,↓Nat.reduceEqDiff,xx,fd51,m51]⟩
 by_cases h3:1<=o.sz
 case neg=>exact⟨false,⟨(fun h=>by cases h),fun h=>absurd h.sz.1 h3⟩,by simp(disch:=apply zq;omega) only[go_sem,simprocAttr,↓Nat.reduceEqDiff,xx,fd51,m51]⟩
 by_cases h4:o.sz<=1099511627776
 case neg=>exact⟨false,⟨(fun h=>by cases h),fun h=>absurd h.sz.2 h4⟩,by simp(disch:=apply zq;omega) only[go_sem,simprocAttr,↓Nat.reduceEqDiff,xx,fd51,m51]⟩
 by_cases h5:0<=o.la
 case neg=>exact⟨false,⟨(fun h=>by cases h),fun h=>absurd h.la.1 h5⟩,by simp(disch:=apply zq;omega) only[go_sem,simprocAttr,↓Nat.reduceEqDiff,xx,fd51,m51]⟩
 by_cases h6:o.la<=1099511627776
 case neg=>exact⟨false,⟨(fun h=>by cases h),fun h=>absurd h.la.2 h6⟩,by simp(disch:=apply zq;omega) only[go_sem,simprocAttr,↓Nat.reduceEqDiff,xx,fd51,m51]⟩
 exact⟨true,⟨fun _=>⟨⟨h1,h2⟩,⟨h3,h4⟩,⟨h5,h6⟩⟩,fun _=>rfl⟩,by simp(disch:=apply zq;omega) only[go_sem,simprocAttr,↓Nat.reduceEqDiff,xx,fd51,m51]⟩
theorem zqn (h:1<=n)(o:Ob):∃b:Bool,(b=true↔ROk o)/\call gl tab n 36 [oV o] []=some (.bool b,[],[]):=by
 obtain⟨d,rfl⟩:=wB h
 rw[zaf (fd:=fd36) rfl]
 by_cases h1:1<=o.nm.length
 case neg=>exact⟨false,⟨(fun h=>by cases h),fun h=>absurd h.nl.1 h1⟩,by simp(disch:=apply zq;omega) only[go_sem,simprocAttr,↓Nat.reduceEqDiff,xx,fd36,m36]⟩
 by_cases h2:o.nm.length<=4096
 case neg=>exact⟨false,⟨(fun h=>by cases h),fun h=>absurd h.nl.2 h2⟩,by simp(disch:=apply zq;omega) only[go_sem,simprocAttr,↓Nat.reduceEqDiff,xx,fd36,m36]⟩
 by_cases h3:1<=o.sz
 case neg=>exact⟨false,⟨(fun h=>by cases h),fun h=>absurd h.sz.1 h3⟩,by simp(disch:=apply zq;omega) only[go_sem,simprocAttr,↓Nat.reduceEqDiff,xx,fd36,m36]⟩
 by_cases h4:o.sz<=1099511627776
 case neg=>exact⟨false,⟨(fun h=>by cases h),fun h=>absurd h.sz.2 h4⟩,by simp(disch:=apply zq;omega) only[go_sem,simprocAttr,↓Nat.reduceEqDiff,xx,fd36,m36]⟩
 by_cases h5:0<=o.la
 case neg=>exact⟨false,⟨(fun h=>by cases h),fun h=>absurd h.la.1 h5⟩,by simp(disch:=apply zq;omega) only[go_sem,simprocAttr,↓Nat.reduceEqDiff,xx,fd36,m36]⟩
 by_cases h6:o.la<=1099511627776
 case neg=>exact⟨false,⟨(fun h=>by cases h),fun h=>absurd h.la.2 h6⟩,by simp(disch:=apply zq;omega) only[go_sem,simprocAttr,↓Nat.reduceEqDiff,xx,fd36,m36]⟩
 exact⟨true,⟨fun _=>⟨⟨h1,h2⟩,⟨h3,h4⟩,⟨h5,h6⟩⟩,fun _=>rfl⟩,by simp(disch:=apply zq;omega) only[go_sem,simprocAttr,↓Nat.reduceEqDiff,xx,fd36,m36]⟩
def ix (k N:Nat):Int:=if k<N then(k:Int)else -1
def L17 :MC:=match m42 with| .seq _ (.seq (.seq _ (.block _ (.loop _ b))) _)=>b|_=>.skip
def S97f (f:Bool)(m:Sh)(l:List Ob)(x:List UInt8)(i:Nat):St:=⟨[.set 5 (i64 i),.set 1 (.str x),.set 0 (.lst f m (hs l))],[]⟩
theorem zu1 (h:1<=n){f:Bool}{m:Sh}{l:List Ob}(hm:Mk l m sO)(hl:l.length<2^60)(x:List UInt8) :
  ∃k:Nat,k<=l.length/\(∀j,j<k->(oat l j).nm≠x)/\(k<l.length->(oat l k).nm=x)/\call gl tab n 42 [.lst f m (hs l),.str x] []=some (i64 (ix k l.length),[],[]):=by
 obtain⟨d,rfl⟩:=wB h
 have hst:∀i,i<l.length->(oat l i).nm≠x->zba [.slot 0,.slot 1,.slot 5] (evC gl (call gl tab d) L17 (S97f f m l x i))=some (S97f f m l x (i+1)):=fun i hi hp=>by
  have hx:=zdu hi
  obtain rfl:=hm.eq hi
  have hq:((oat l i).nm==x)=false:=by simpa using hp
  simp(disch:=apply zq;omega) only[go_sem,simprocAttr,↓Nat.reduceEqDiff,xx,L17,m42,S97f,zaa,hx,hq]
 have hf:∀i,i<l.length->¬(oat l i).nm≠x->out1 4 (evC gl (call gl tab d) L17 (S97f f m l x i))=some (.ret,i64 i):=fun i hi hp=>by
  have hx:=zdu hi
  obtain rfl:=hm.eq hi
  have hq:((oat l i).nm==x)=true:=by simpa using hp
  simp(disch:=apply zq;omega) only[go_sem,simprocAttr,↓Nat.reduceEqDiff,xx,L17,m42,S97f,zaa,hx,hq]
 rw[zaf (fd:=fd42) rfl]
 rcases first_fail (fun i=>(oat l i).nm≠x) l.length with ha|⟨k,hk,hb,he⟩
 . refine⟨l.length,wC _,ha,fun h=>absurd h (wD _),?_⟩
   have hs2:=fun i hi=>hst i hi (ha i hi)
   simp only[L17,m42]at hs2
   rw[ix,if_neg (wD _)]
   simp(disch:=apply zq;omega) only[go_sem,simprocAttr,↓Nat.reduceEqDiff,xx,fd42,m42,zaa]
   rw[zaj (S97f f m l x) l.length (by unfold LF;omega)]
   . simp(disch:=apply zq;omega) only[go_sem,simprocAttr,↓Nat.reduceEqDiff,xx,S97f,zaa]
   . simp(disch:=apply zq;omega) only[go_sem,simprocAttr,↓Nat.reduceEqDiff,xx,S97f,zaa]
   . exact hs2
   . simp(disch:=apply zq;omega) only[go_sem,simprocAttr,↓Nat.reduceEqDiff,xx,S97f,zaa]
 . obtain⟨st,hst',hg⟩:=zcw (hf k hk he)
   have hs2:=fun i hi=>hst i (by omega) (hb i hi)
   simp only[L17,m42]at hs2 hst'
   refine⟨k,by omega,hb,fun _=>Classical.not_not.1 he,?_⟩
   rw[ix,if_pos hk]
   simp(disch:=apply zq;omega) only[go_sem,simprocAttr,↓Nat.reduceEqDiff,xx,fd42,m42,zaa]
   rw[zaj (S97f f m l x) k (by unfold LF;omega),hst']
   . simp(disch:=apply zq;omega) only[go_sem,simprocAttr,↓Nat.reduceEqDiff,xx,hg]
   . simp(disch:=apply zq;omega) only[go_sem,simprocAttr,↓Nat.reduceEqDiff,xx,S97f,zaa]
   . exact hs2
   . rw[hst'];rfl
def L34 :MC:=match m29 with| .seq _ (.seq (.seq _ (.block _ (.loop _ b))) _)=>b|_=>.skip
def S34 (f:Bool)(m:Sh)(l:List A3)(x:Int)(i:Nat):St:=⟨[.set 5 (i64 i),.set 1 (i64 x),.set 0 (.lst f m (ac l))],[]⟩
theorem zs8 (h:1<=n){f:Bool}{m:Sh}{l:List A3}(hm:Mk l m sA)(hl:l.length<2^60)(x:Int) :
  ∃k:Nat,k<=l.length/\(∀j,j<k->(aat l j).t≠x)/\(k<l.length->(aat l k).t=x)/\call gl tab n 29 [.lst f m (ac l),i64 x] []=some (i64 (ix k l.length),[],[]):=by
 obtain⟨d,rfl⟩:=wB h
 have hst:∀i,i<l.length->(aat l i).t≠x->zba [.slot 0,.slot 1,.slot 5] (evC gl (call gl tab d) L34 (S34 f m l x i))=some (S34 f m l x (i+1)):=fun i hi hp=>by
  have hx:=zej hi
  obtain rfl:=hm.eq hi
  have hq:((aat l i).t==x)=false:=by simpa using hp
  simp(disch:=apply zq;omega) only[go_sem,simprocAttr,↓Nat.reduceEqDiff,xx,L34,m29,S34,zad,hx,hq]
 have hf:∀i,i<l.length->¬(aat l i).t≠x->out1 4 (evC gl (call gl tab d) L34 (S34 f m l x i))=some (.ret,i64 i):=fun i hi hp=>by
  have hx:=zej hi
  obtain rfl:=hm.eq hi
  have hq:((aat l i).t==x)=true:=by simpa using hp
  simp(disch:=apply zq;omega) only[go_sem,simprocAttr,↓Nat.reduceEqDiff,xx,L34,m29,S34,zad,hx,hq]
 rw[zaf (fd:=fd29) rfl]
 rcases first_fail (fun i=>(aat l i).t≠x) l.length with ha|⟨k,hk,hb,he⟩
 . refine⟨l.length,wC _,ha,fun h=>absurd h (wD _),?_⟩
   have hs2:=fun i hi=>hst i hi (ha i hi)
   simp only[L34,m29]at hs2
   rw[ix,if_neg (wD _)]
   simp(disch:=apply zq;omega) only[go_sem,simprocAttr,↓Nat.reduceEqDiff,xx,fd29,m29,zad]
   rw[zaj (S34 f m l x) l.length (by unfold LF;omega)]
   . simp(disch:=apply zq;omega) only[go_sem,simprocAttr,↓Nat.reduceEqDiff,xx,S34,zad]
   . simp(disch:=apply zq;omega) only[go_sem,simprocAttr,↓Nat.reduceEqDiff,xx,S34,zad]
   . exact hs2
   . simp(disch:=apply zq;omega) only[go_sem,simprocAttr,↓Nat.reduceEqDiff,xx,S34,zad]
 . obtain⟨st,hst',hg⟩:=zcw (hf k hk he)
   have hs2:=fun i hi=>hst i (by omega) (hb i hi)
   simp only[L34,m29]at hs2 hst'
   refine⟨k,by omega,hb,fun _=>Classical.not_not.1 he,?_⟩
   rw[ix,if_pos hk]
   simp(disch:=apply zq;omega) only[go_sem,simprocAttr,↓Nat.reduceEqDiff,xx,fd29,m29,zad]
   rw[zaj (S34 f m l x) k (by unfold LF;omega),hst']
   . simp(disch:=apply zq;omega) only[go_sem,simprocAttr,↓Nat.reduceEqDiff,xx,hg]
   . simp(disch:=apply zq;omega) only[go_sem,simprocAttr,↓Nat.reduceEqDiff,xx,S34,zad]
   . exact hs2
   . rw[hst'];rfl
def usd (l:List Ob)(t:Int):Nat->Int
 | 0=>0
 | i+1=>usd l t i+if(oat l i).tn=t then(oat l i).sz else 0
theorem qje (l:List Ob)(t:Int):usd l t 0=0:=rfl
theorem qab {l:List Ob}{t:Int}{i:Nat}(h:(oat l i).tn=t):usd l t (i+1)=usd l t i+(oat l i).sz:=by rw[usd,if_pos h]
theorem qac {l:List Ob}{t:Int}{i:Nat}(h:(oat l i).tn≠t):usd l t (i+1)=usd l t i:=by rw[usd,if_neg h];omega
def RL (l:List Ob):Prop:=∀i,i<l.length->ROk (oat l i)
theorem z8r {l:List Ob}(hv:RL l)(t:Int):∀{i:Nat},i<=l.length->0<=usd l t i/\usd l t i<=(i:Int)*1099511627776
 | 0,_=>by simp[usd]
 | i+1,hi=>by
   have h1:=z8r hv t (show i<=l.length by omega)
   have h3:=(hv i (by omega)).sz
   by_cases h:(oat l i).tn=t
   . rw[qab h];omega
   . rw[qac h];omega
def L35 :MC:=match m37 with| .seq _ (.seq _ (.seq (.seq _ (.block _ (.loop _ b))) _))=>b|_=>.skip
def S35 (f:Bool)(m:Sh)(l:List Ob)(t:Int)(i:Nat):St:=⟨[.set 6 (i64 i),.set 5 (i64 (usd l t i)),.set 1 (i64 t),.set 0 (.lst f m (hs l))],[]⟩
theorem zsl (h:1<=n){f:Bool}{m:Sh}{l:List Ob}(hm:Mk l m sO)(hl:l.length<=4096)(hv:RL l)(t:Int):call gl tab n 37 [.lst f m (hs l),i64 t] []=some (i64 (usd l t l.length),[],[]):=by
 obtain⟨d,rfl⟩:=wB h
 have hst:∀i,i<l.length->zba [.slot 0,.slot 1,.slot 5,.slot 6] (evC gl (call gl tab d) L35 (S35 f m l t i))=some (S35 f m l t (i+1)):=fun i hi=>by
  have hx:=zdu hi
  obtain rfl:=hm.eq hi
  have h1:=z8r hv t (show i<=l.length by omega)
  have h2:=(hv i hi).sz
  by_cases hp:(oat l i).tn=t
  . have hq:((oat l i).tn==t)=true:=by simpa using hp
    have e:=qab (l:=l) (i:=i) hp
    simp(disch:=apply zq;omega) only[go_sem,simprocAttr,↓Nat.reduceEqDiff,xx,L35,m37,S35,zaa,hx,hq,e]
  . have hq:((oat l i).tn==t)=false:=by simpa using hp
    have e:=qac (l:=l) (i:=i) hp
    simp(disch:=apply zq;omega) only[go_sem,simprocAttr,↓Nat.reduceEqDiff,xx,L35,m37,S35,zaa,hx,hq,e]
 simp only[L35,m37]at hst
 rw[zaf (fd:=fd37) rfl]
 simp(disch:=apply zq;omega) only[go_sem,simprocAttr,↓Nat.reduceEqDiff,xx,fd37,m37,zaa]
 rw[zaj (S35 f m l t) l.length (by unfold LF;omega)]
 . simp(disch:=apply zq;omega) only[go_sem,simprocAttr,↓Nat.reduceEqDiff,xx,S35,zaa]
 . simp(disch:=apply zq;omega) only[go_sem,simprocAttr,↓Nat.reduceEqDiff,xx,S35,zaa,qje]
 . exact hst
 . simp(disch:=apply zq;omega) only[go_sem,simprocAttr,↓Nat.reduceEqDiff,xx,S35,zaa]
end Go.Proofs.S97
namespace Go.Proofs.S97
open Go Go.Ev Go.Proofs Go.Proofs.S97.Q
variable {gl :Gl} {n:Nat}
theorem z0y (h:1<=n)(a:List UInt8):call gl tab n 83 [.str a] []=some (.bool false,[],[]):=by
 obtain⟨d,rfl⟩:=wB h
 have e:(a != a)=false:=by simp
 rw[zaf (fd:=fd83) rfl]
 simp(disch:=apply zq;omega) only[go_sem,simprocAttr,↓Nat.reduceEqDiff,xx,fd83,m83,e]
theorem zt7 (h:2<=n)(a b:List UInt8):call gl tab n 59 [.str a,.str b] []=some (i64 (Bl.cmp a b),[],[]):=by
 obtain⟨d,rfl⟩:=wB h
 have c1:=@z0y gl (d+1) (by omega) a
 have c2:=@z0y gl (d+1) (by omega) b
 rw[zaf (fd:=fd59) rfl]
 by_cases h1:Bl.lt a b=true
 . have e1:Bl.cmp a b=-1:=by rw[Bl.cmp,if_pos h1]
   simp(disch:=apply zq;omega) only[go_sem,simprocAttr,↓Nat.reduceEqDiff,xx,fd59,m59,c1,c2,e1,h1,z33]
 . have h1':Bl.lt a b=false:=by simpa using h1
   by_cases h2:Bl.lt b a=true
   . have e1:Bl.cmp a b=1:=by rw[Bl.cmp,if_neg h1,if_pos h2]
     simp(disch:=apply zq;omega) only[go_sem,simprocAttr,↓Nat.reduceEqDiff,xx,fd59,m59,c1,c2,e1,h1',h2,z33,z9q]
   . have e1:Bl.cmp a b=0:=by rw[Bl.cmp,if_neg h1,if_neg h2]
     have h2':Bl.lt b a=false:=by simpa using h2
     simp(disch:=apply zq;omega) only[go_sem,simprocAttr,↓Nat.reduceEqDiff,xx,fd59,m59,c1,c2,e1,h1',h2',z33,z9q]
theorem z67 (h:3<=n)(o:Ob)(x:List UInt8):call gl tab n 58 [oV o,.str x] []=some (i64 (Bl.cmp o.nm x),[],[]):=by
 obtain⟨d,rfl⟩:=wB h
 have c1:=@zt7 gl (d+2) (by omega) o.nm x
 rw[zaf (fd:=fd58) rfl]
 simp(disch:=apply zq;omega) only[go_sem,simprocAttr,↓Nat.reduceEqDiff,xx,fd58,m58,c1]
def Srt (l:List Ob):Prop:=∀i j,i<j->j<l.length->Bl.lt (oat l i).nm (oat l j).nm=true
structure Pn (l:List Ob)(x:List UInt8)(k:Nat):Prop where
 le:k<=l.length
 lo:∀j,j<k->Bl.lt (oat l j).nm x=true
 hi:∀j,k<=j->j<l.length->Bl.lt (oat l j).nm x=false
def L53 :MC:=match m57 with| .seq _ (.seq _ (.seq _ (.seq (.block _ (.loop _ b)) _)))=>b|_=>.skip
def S53 (f:Bool)(m:Sh)(l:List Ob)(x:List UInt8)(a:Nat×Nat):St :=
 ⟨[.set 10 (i64 a.2),.set 9 (i64 a.1),.set 8 (i64 l.length),.set 2 (.fn 58 []),.set 1 (.str x),.set 0 (.lst f m (hs l))],[]⟩
def nxtN (l:List Ob)(x:List UInt8)(a:Nat×Nat):Nat×Nat:=if Bl.lt (oat l ((a.1+a.2)/2)).nm x=true then((a.1+a.2)/2+1,a.2)else(a.1,(a.1+a.2)/2)
def isAt (l:List Ob)(x:List UInt8)(k:Nat):Bool:=decide (k<l.length)&&decide ((oat l k).nm=x)
set_option maxHeartbeats 800000 in
theorem zwt (h:4<=n){f:Bool}{m:Sh}{l:List Ob}(hm:Mk l m sO)(hn:l.length<=8192)(hv:Srt l)(x:List UInt8) :
  ∃k:Nat,Pn l x k/\call gl tab n 57 [.lst f m (hs l),.str x,.fn 58 []] []=some (.tup [i64 k,.bool (isAt l x k)],[],[]):=by
 obtain⟨d,rfl⟩:=wB h
 have c47:=@z67 gl (d+3) (by omega)
 obtain⟨⟨k,k'⟩,⟨i1,i2,i3⟩,hgo,hit⟩:=zi3 (f:=evC gl (call gl tab (d+3)) L53) (ks:=[.slot 0,.slot 1,.slot 2,.slot 8,.slot 9,.slot 10]) (S53 f m l x)
  (fun a=>a.1<=a.2/\a.2<=l.length/\(∀t,t<a.1->Bl.lt (oat l t).nm x=true)/\∀t,a.2<=t->t<l.length->Bl.lt (oat l t).nm x=false) (fun a=>a.2-a.1)
  (nxtN l x) (fun a=>decide (a.1<a.2)) (a0:=(0,l.length)) (by unfold LF;simp;omega)
  ⟨Nat.zero_le _,wC _,fun t ht=>absurd ht (Nat.not_lt_zero _),fun t h1 h2=>absurd h2 (by simp at h1;omega)⟩
  (fun a ⟨h1,h2,h3,h4⟩ hg=>by
    obtain⟨i,j⟩:=a
    simp only[decide_eq_true_eq]at hg h1 h2 h3 h4 ⊢
    have hmid:=z83 i j (by omega)
    have hml:(i+j)/2<l.length:=by omega
    have hx:=zdu hml
    have hm2:=hm.eq hml
    have c:=c47 (oat l ((i+j)/2)) x
    by_cases hc:Bl.lt (oat l ((i+j)/2)).nm x=true
    . have e:nxtN l x (i,j)=((i+j)/2+1,j):=if_pos hc
      rw[e]
      refine⟨?_,⟨by simp only;omega,h2,fun t ht'=> ?_,h4⟩,by simp only;omega⟩
      . have hc':=Bl.cmp_lt.2 hc
        generalize Bl.cmp (oat l ((i+j)/2)).nm x=cv at *
        generalize (i+j)/2=m' at *
        simp(disch:=apply zq;omega) only[go_sem,simprocAttr,↓Nat.reduceEqDiff,xx,L53,m57,S53,hmid,hx,hm2,zaa,c]
      . simp only at ht'
        by_cases h5:t=(i+j)/2
        . rw[h5];exact hc
        . exact Bl.trans (hv t _ (show t<(i+j)/2 by omega) hml) hc
    . have e:nxtN l x (i,j)=(i,(i+j)/2):=if_neg hc
      rw[e]
      have hcf:Bl.lt (oat l ((i+j)/2)).nm x=false:=by simpa using hc
      refine⟨?_,⟨by simp only;omega,by simp only;omega,h3,fun t ht' h6=> ?_⟩,by simp only;omega⟩
      . have hc':¬Bl.cmp (oat l ((i+j)/2)).nm x<0:=fun h=>hc (Bl.cmp_lt.1 h)
        generalize Bl.cmp (oat l ((i+j)/2)).nm x=cv at *
        generalize (i+j)/2=m' at *
        simp(disch:=apply zq;omega) only[go_sem,simprocAttr,↓Nat.reduceEqDiff,xx,L53,m57,S53,hmid,hx,hm2,zaa,c]
      . simp only at ht'
        by_cases h5:t=(i+j)/2
        . rw[h5];exact hcf
        . cases h7:Bl.lt (oat l t).nm x with
          | false=>rfl
          | true=>exact absurd (Bl.trans (hv _ t (show(i+j)/2<t by omega) h6) h7) hc)
  (fun a ⟨h1,h2,h3,h4⟩ hg=>by
    simp only[decide_eq_false_iff_not]at hg
    simp(disch:=apply zq;omega) only[go_sem,simprocAttr,↓Nat.reduceEqDiff,xx,L53,m57,S53,zaa])
 simp only[decide_eq_false_iff_not]at hgo i1 i2 i3
 obtain rfl:k=k':=by omega
 simp only[L53,m57]at hit
 refine⟨k,⟨i2,i3.1,i3.2⟩,?_⟩
 by_cases hkl:k<l.length
 . have hx:=zdu hkl
   have hm2:=hm.eq hkl
   have c:=c47 (oat l k) x
   have e:isAt l x k=(Bl.cmp (oat l k).nm x==0):=by
    rw[isAt,decide_eq_true hkl,Bool.true_and]
    cases hq:(Bl.cmp (oat l k).nm x==0)with
    | true=>exact decide_eq_true (Bl.cmp_eq.1 (by simpa using hq))
    | false=>exact decide_eq_false fun h=>by rw[Bl.cmp_eq.2 h]at hq;cases hq
   rw[e,zaf (fd:=fd57) rfl]
   simp(disch:=apply zq;omega) only[go_sem,simprocAttr,↓Nat.reduceEqDiff,xx,fd57,m57,zaa]
   rw[hit _ (by simp(disch:=apply zq;omega) only[go_sem,simprocAttr,↓Nat.reduceEqDiff,xx,S53])]
   simp(disch:=apply zq;omega) only[go_sem,simprocAttr,↓Nat.reduceEqDiff,xx,S53,zaa,hx,hm2,c]
 . have e:isAt l x k=false:=by rw[isAt,decide_eq_false hkl,Bool.false_and]
   rw[e,zaf (fd:=fd57) rfl]
   simp(disch:=apply zq;omega) only[go_sem,simprocAttr,↓Nat.reduceEqDiff,xx,fd57,m57,zaa]
   rw[hit _ (by simp(disch:=apply zq;omega) only[go_sem,simprocAttr,↓Nat.reduceEqDiff,xx,S53])]
   simp(disch:=apply zq;omega) only[go_sem,simprocAttr,↓Nat.reduceEqDiff,xx,S53,zaa]
theorem qbv {l:List Ob}{x:List UInt8}{k k':Nat}(h:Pn l x k)(h':Pn l x k'):k=k':=by
 rcases Nat.lt_trichotomy k k' with h1|h1|h1
 . have a:=h'.lo k h1
   rw[h.hi k (wC _) (by have:=h'.le;omega)]at a;cases a
 . exact h1
 . have a:=h.lo k' h1
   rw[h'.hi k' (wC _) (by have:=h.le;omega)]at a;cases a
theorem zfg (h:5<=n){f:Bool}{m:Sh}{l:List Ob}(hm:Mk l m sO)(hn:l.length<=8192)(hv:Srt l)(x:List UInt8) :
  ∃k:Nat,Pn l x k/\call gl tab n 24 [.lst f m (hs l),.str x] []=some (.tup [i64 k,.bool (isAt l x k)],[],[]):=by
 obtain⟨d,rfl⟩:=wB h
 obtain⟨k,hk,c⟩:=@zwt gl (d+4) (by omega) f m l hm hn hv x
 refine⟨k,hk,?_⟩
 rw[zaf (fd:=fd24) rfl]
 simp(disch:=apply zq;omega) only[go_sem,simprocAttr,↓Nat.reduceEqDiff,xx,fd24,m24,c]
end Go.Proofs.S97
