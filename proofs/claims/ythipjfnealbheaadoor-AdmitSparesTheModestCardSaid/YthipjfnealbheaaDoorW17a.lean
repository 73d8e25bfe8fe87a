/-
  Chapter 17: objects; which are right; the first object of a name, of a tenant's account; what a tenant's objects have. No condition.
-/
import Derived.Test.YthipjfnealbheaaDoorW17G4x4
import Derived.Test.YthipjfnealbheaaDoorW17G6x4
import Derived.Test.YthipjfnealbheaaDoorW17G13x4
import Derived.Test.YthipjfnealbheaaDoorW17G14x4
set_option linter.all false
open Nat renaming exists_eq_add_of_le'->wB,lt_irrefl->wC,le_refl->wD
namespace Go.Proofs.S17
open Go Go.Ev Go.Proofs Go.Proofs.S17.Q
variable {gl :Gl} {n:Nat}
theorem z2q (a b:List UInt8):zir .lss a b=some (.bool (Bl.lt a b)):=rfl
theorem qeu (a b:List UInt8):(Op.bytesLess a b||a==b)= !Bl.lt b a:=by
 show(Bl.lt a b||a==b)= !Bl.lt b a
 rcases Bl.tri a b with h|rfl|h
 . rw[h,Bl.asymm h];rfl
 . rw[Bl.irrefl];simp
 . rw[h,Bl.asymm h]
   have:=(Bl.ne h).symm
   simpa using this
theorem z7u (a b:List UInt8):zir .gtr a b=some (.bool (Bl.lt b a)):=by
 show some (AV.bool (!(Op.bytesLess a b||a==b)))=_
 rw[qeu,Bool.not_not]
theorem zrn (a b:List UInt8):zir .leq a b=some (.bool (!Bl.lt b a)):=by
 show some (AV.bool (Op.bytesLess a b||a==b))=_
 rw[qeu]
structure Ob where
 nm:List UInt8
 tn:Int
 sz:Int
 la:Int
abbrev oV (o:Ob):AV:=.agg [.str o.nm,i64 o.tn,i64 o.sz,i64 o.la]
def hs (l:List Ob):List AV:=l.map oV
abbrev sO :Sh:=.st [.sc,.sc,.sc,.sc]
def oat (l:List Ob)(i:Nat):Ob:=l.getD i ⟨[],0,0,0⟩
theorem zaa (l:List Ob):(hs l).length=l.length:=by simp[hs]
theorem zeq {l:List Ob}{i:Nat}(h:i<l.length):(hs l)[i]? =some (.agg [.str (oat l i).nm,i64 (oat l i).tn,i64 (oat l i).sz,i64 (oat l i).la]):=by simp[hs,oat,h]
theorem zev :hs []=[]:=rfl
theorem zuu (l:List Ob)(s:Ob):hs (l++[s])=hs l++[.agg [.str s.nm,i64 s.tn,i64 s.sz,i64 s.la]]:=by simp[hs]
theorem zo1 (l:List Ob)(v:AV):(hs l++[v]).take (l.length+1)=hs l++[v]:=by rw[<-zaa];exact List.take_of_length_le (by simp)
theorem zo0 (l:List Ob):(hs l).take l.length=hs l:=by rw[<-zaa];exact List.take_length
structure ROk (o:Ob):Prop where
 nl:1<=o.nm.length/\o.nm.length<=4096
 sz:1<=o.sz/\o.sz<=1099511627776
 la:0<=o.la/\o.la<=1099511627776
theorem zke (h:1<=n)(o:Ob):∃b:Bool,(b=true↔ROk o)/\call gl tab n 31 [oV o] []=some (.bool b,[],[]):=by
 obtain⟨d,rfl⟩:=wB h
 rw[zah (fd:=fd31) rfl]
 by_cases h1:1<=o.nm.length
 case neg=>exact⟨false,⟨(fun h=>by cases h),fun h=>absurd h.nl.1 h1⟩,by simp(disch:=apply zq;omega) only[go_sem,simprocAttr,↓Nat.reduceEqDiff,xx,fd31,m31]⟩
 by_cases h2:o.nm.length<=4096
 case neg=>exact⟨false,⟨(fun h=>by cases h),fun h=>absurd h.nl.2 h2⟩,by simp(disch:=apply zq;omega) only[go_sem,simprocAttr,↓Nat.reduceEqDiff,xx,fd31,m31]⟩
 by_cases h3:1<=o.sz
 case neg=>exact⟨false,⟨(fun h=>by cases h),fun h=>absurd h.sz.1 h3⟩,by simp(disch:=apply zq;omega) only[go_sem,simprocAttr,↓Nat.reduceEqDiff,xx,fd31,m31]⟩
 by_cases h4:o.sz<=1099511627776
 case neg=>exact⟨false,⟨(fun h=>by cases h),fun h=>absurd h.sz.2 h4⟩,by simp(disch:=apply zq;omega) only[go_sem,simprocAttr,↓Nat.reduceEqDiff,xx,fd31,m31]⟩
 by_cases h5:0<=o.la
 case neg=>exact⟨false,⟨(fun h=>by cases h),fun h=>absurd h.la.1 h5⟩,by simp(disch:=apply zq;omega) only[go_sem,simprocAttr,↓Nat.reduceEqDiff,xx,fd31,m31]⟩
 by_cases h6:o.la<=1099511627776
 case neg=>exact⟨false,⟨(fun h=>by cases h),fun h=>absurd h.la.2 h6⟩,by simp(disch:=apply zq;omega) only[go_sem,simprocAttr,↓Nat.reduceEqDiff,xx,fd31,m31]⟩
 exact⟨true,⟨fun _=>⟨⟨h1,h2⟩,⟨h3,h4⟩,⟨h5,h6⟩⟩,fun _=>rfl⟩,by simp(disch:=apply zq;omega) only[go_sem,simprocAttr,↓Nat.reduceEqDiff,xx,fd31,m31]⟩
theorem zp4 (h:1<=n)(o:Ob):∃b:Bool,(b=true↔ROk o)/\call gl tab n 33 [oV o] []=some (.bool b,[],[]):=by
 obtain⟨d,rfl⟩:=wB h
 rw[zah (fd:=fd33) rfl]
 by_cases h1:1<=o.nm.length
 case neg=>exact⟨false,⟨(fun h=>by cases h),fun h=>absurd h.nl.1 h1⟩,by simp(disch:=apply zq;omega) only[go_sem,simprocAttr,↓Nat.reduceEqDiff,xx,fd33,m33]⟩
 by_cases h2:o.nm.length<=4096
 case neg=>exact⟨false,⟨(fun h=>by cases h),fun h=>absurd h.nl.2 h2⟩,by simp(disch:=apply zq;omega) only[go_sem,simprocAttr,↓Nat.reduceEqDiff,xx,fd33,m33]⟩
 by_cases h3:1<=o.sz
 case neg=>exact⟨false,⟨(fun h=>by cases h),fun h=>absurd h.sz.1 h3⟩,by simp(disch:=apply zq;omega) only[go_sem,simprocAttr,↓Nat.reduceEqDiff,xx,fd33,m33]⟩
 by_cases h4:o.sz<=1099511627776
 case neg=>exact⟨false,⟨(fun h=>by cases h),fun h=>absurd h.sz.2 h4⟩,by simp(disch:=apply zq;omega) only[go_sem,simprocAttr,↓Nat.reduceEqDiff,xx,fd33,m33]⟩
 by_cases h5:0<=o.la
 case neg=>exact⟨false,⟨(fun h=>by cases h),fun h=>absurd h.la.1 h5⟩,by simp(disch:=apply zq;omega) only[go_sem,simprocAttr,↓Nat.reduceEqDiff,xx,fd33,m33]⟩
 by_cases h6:o.la<=1099511627776
 case neg=>exact⟨false,⟨(fun h=>by cases h),fun h=>absurd h.la.2 h6⟩,by simp(disch:=apply zq;omega) only[go_sem,simprocAttr,↓Nat.reduceEqDiff,xx,fd33,m33]⟩
 exact⟨true,⟨fun _=>⟨⟨h1,h2⟩,⟨h3,h4⟩,⟨h5,h6⟩⟩,fun _=>rfl⟩,by simp(disch:=apply zq;omega) only[go_sem,simprocAttr,↓Nat.reduceEqDiff,xx,fd33,m33]⟩
def ix (k N:Nat):Int:=if k<N then(k:Int)else -1
def L17 :MC:=match m17 with| .seq _ (.seq (.seq _ (.block _ (.loop _ b))) _)=>b|_=>.skip
def S17f (f:Bool)(m:Sh)(l:List Ob)(x:List UInt8)(i:Nat):St:=⟨[.set 5 (i64 i),.set 1 (.str x),.set 0 (.lst f m (hs l))],[]⟩
theorem zoc (h:1<=n){f:Bool}{m:Sh}{l:List Ob}(hm:Mk l m sO)(hl:l.length<2^60)(x:List UInt8) :
  ∃k:Nat,k<=l.length/\(∀j,j<k->(oat l j).nm≠x)/\(k<l.length->(oat l k).nm=x)/\call gl tab n 17 [.lst f m (hs l),.str x] []=some (i64 (ix k l.length),[],[]):=by
 obtain⟨d,rfl⟩:=wB h
 have hst:∀i,i<l.length->(oat l i).nm≠x->zbn [.slot 0,.slot 1,.slot 5] (evC gl (call gl tab d) L17 (S17f f m l x i))=some (S17f f m l x (i+1)):=fun i hi hp=>by
  have hx:=zeq hi
  obtain rfl:=hm.eq hi
  have hq:((oat l i).nm==x)=false:=by simpa using hp
  simp(disch:=apply zq;omega) only[go_sem,simprocAttr,↓Nat.reduceEqDiff,xx,L17,m17,S17f,zaa,hx,hq]
 have hf:∀i,i<l.length->¬(oat l i).nm≠x->out1 4 (evC gl (call gl tab d) L17 (S17f f m l x i))=some (.ret,i64 i):=fun i hi hp=>by
  have hx:=zeq hi
  obtain rfl:=hm.eq hi
  have hq:((oat l i).nm==x)=true:=by simpa using hp
  simp(disch:=apply zq;omega) only[go_sem,simprocAttr,↓Nat.reduceEqDiff,xx,L17,m17,S17f,zaa,hx,hq]
 rw[zah (fd:=fd17) rfl]
 rcases first_fail (fun i=>(oat l i).nm≠x) l.length with ha|⟨k,hk,hb,he⟩
 . refine⟨l.length,wD _,ha,fun h=>absurd h (wC _),?_⟩
   have hs2:=fun i hi=>hst i hi (ha i hi)
   simp only[L17,m17]at hs2
   rw[ix,if_neg (wC _)]
   simp(disch:=apply zq;omega) only[go_sem,simprocAttr,↓Nat.reduceEqDiff,xx,fd17,m17,zaa]
   rw[zam (S17f f m l x) l.length (by unfold LF;omega)]
   . simp(disch:=apply zq;omega) only[go_sem,simprocAttr,↓Nat.reduceEqDiff,xx,S17f,zaa]
   . simp(disch:=apply zq;omega) only[go_sem,simprocAttr,↓Nat.reduceEqDiff,xx,S17f,zaa]
   . exact hs2
   . simp(disch:=apply zq;omega) only[go_sem,simprocAttr,↓Nat.reduceEqDiff,xx,S17f,zaa]
 . obtain⟨st,hst',hg⟩:=zcq (hf k hk he)
   have hs2:=fun i hi=>hst i (by omega) (hb i hi)
   simp only[L17,m17]at hs2 hst'
   refine⟨k,by omega,hb,fun _=>Classical.not_not.1 he,?_⟩
   rw[ix,if_pos hk]
   simp(disch:=apply zq;omega) only[go_sem,simprocAttr,↓Nat.reduceEqDiff,xx,fd17,m17,zaa]
   rw[zam (S17f f m l x) k (by unfold LF;omega),hst']
   . simp(disch:=apply zq;omega) only[go_sem,simprocAttr,↓Nat.reduceEqDiff,xx,hg]
   . simp(disch:=apply zq;omega) only[go_sem,simprocAttr,↓Nat.reduceEqDiff,xx,S17f,zaa]
   . exact hs2
   . rw[hst'];rfl
def L34 :MC:=match m34 with| .seq _ (.seq (.seq _ (.block _ (.loop _ b))) _)=>b|_=>.skip
def S34 (f:Bool)(m:Sh)(l:List A3)(x:Int)(i:Nat):St:=⟨[.set 5 (i64 i),.set 1 (i64 x),.set 0 (.lst f m (ac l))],[]⟩
theorem zzb (h:1<=n){f:Bool}{m:Sh}{l:List A3}(hm:Mk l m sA)(hl:l.length<2^60)(x:Int) :
  ∃k:Nat,k<=l.length/\(∀j,j<k->(aat l j).t≠x)/\(k<l.length->(aat l k).t=x)/\call gl tab n 34 [.lst f m (ac l),i64 x] []=some (i64 (ix k l.length),[],[]):=by
 obtain⟨d,rfl⟩:=wB h
 have hst:∀i,i<l.length->(aat l i).t≠x->zbn [.slot 0,.slot 1,.slot 5] (evC gl (call gl tab d) L34 (S34 f m l x i))=some (S34 f m l x (i+1)):=fun i hi hp=>by
  have hx:=zd7 hi
  obtain rfl:=hm.eq hi
  have hq:((aat l i).t==x)=false:=by simpa using hp
  simp(disch:=apply zq;omega) only[go_sem,simprocAttr,↓Nat.reduceEqDiff,xx,L34,m34,S34,zac,hx,hq]
 have hf:∀i,i<l.length->¬(aat l i).t≠x->out1 4 (evC gl (call gl tab d) L34 (S34 f m l x i))=some (.ret,i64 i):=fun i hi hp=>by
  have hx:=zd7 hi
  obtain rfl:=hm.eq hi
  have hq:((aat l i).t==x)=true:=by simpa using hp
  simp(disch:=apply zq;omega) only[go_sem,simprocAttr,↓Nat.reduceEqDiff,xx,L34,m34,S34,zac,hx,hq]
 rw[zah (fd:=fd34) rfl]
 rcases first_fail (fun i=>(aat l i).t≠x) l.length with ha|⟨k,hk,hb,he⟩
 . refine⟨l.length,wD _,ha,fun h=>absurd h (wC _),?_⟩
   have hs2:=fun i hi=>hst i hi (ha i hi)
   simp only[L34,m34]at hs2
   rw[ix,if_neg (wC _)]
   simp(disch:=apply zq;omega) only[go_sem,simprocAttr,↓Nat.reduceEqDiff,xx,fd34,m34,zac]
   rw[zam (S34 f m l x) l.length (by unfold LF;omega)]
   . simp(disch:=apply zq;omega) only[go_sem,simprocAttr,↓Nat.reduceEqDiff,xx,S34,zac]
   . simp(disch:=apply zq;omega) only[go_sem,simprocAttr,↓Nat.reduceEqDiff,xx,S34,zac]
   . exact hs2
   . simp(disch:=apply zq;omega) only[go_sem,simprocAttr,↓Nat.reduceEqDiff,xx,S34,zac]
 . obtain⟨st,hst',hg⟩:=zcq (hf k hk he)
   have hs2:=fun i hi=>hst i (by omega) (hb i hi)
   simp only[L34,m34]at hs2 hst'
   refine⟨k,by omega,hb,fun _=>Classical.not_not.1 he,?_⟩
   rw[ix,if_pos hk]
   simp(disch:=apply zq;omega) only[go_sem,simprocAttr,↓Nat.reduceEqDiff,xx,fd34,m34,zac]
   rw[zam (S34 f m l x) k (by unfold LF;omega),hst']
   . simp(disch:=apply zq;omega) only[go_sem,simprocAttr,↓Nat.reduceEqDiff,xx,hg]
   . simp(disch:=apply zq;omega) only[go_sem,simprocAttr,↓Nat.reduceEqDiff,xx,S34,zac]
   . exact hs2
   . rw[hst'];rfl
def usd (l:List Ob)(t:Int):Nat->Int
 | 0=>0
 | i+1=>usd l t i+if(oat l i).tn=t then(oat l i).sz else 0
theorem qhd (l:List Ob)(t:Int):usd l t 0=0:=rfl
theorem z8h {l:List Ob}{t:Int}{i:Nat}(h:(oat l i).tn=t):usd l t (i+1)=usd l t i+(oat l i).sz:=by rw[usd,if_pos h]
theorem z8i {l:List Ob}{t:Int}{i:Nat}(h:(oat l i).tn≠t):usd l t (i+1)=usd l t i:=by rw[usd,if_neg h];omega
def RL (l:List Ob):Prop:=∀i,i<l.length->ROk (oat l i)
theorem z6z {l:List Ob}(hv:RL l)(t:Int):∀{i:Nat},i<=l.length->0<=usd l t i/\usd l t i<=(i:Int)*1099511627776
 | 0,_=>by simp[usd]
 | i+1,hi=>by
   have h1:=z6z hv t (show i<=l.length by omega)
   have h3:=(hv i (by omega)).sz
   by_cases h:(oat l i).tn=t
   . rw[z8h h];omega
   . rw[z8i h];omega
def L35 :MC:=match m35 with| .seq _ (.seq _ (.seq (.seq _ (.block _ (.loop _ b))) _))=>b|_=>.skip
def S35 (f:Bool)(m:Sh)(l:List Ob)(t:Int)(i:Nat):St:=⟨[.set 6 (i64 i),.set 5 (i64 (usd l t i)),.set 1 (i64 t),.set 0 (.lst f m (hs l))],[]⟩
theorem zx9 (h:1<=n){f:Bool}{m:Sh}{l:List Ob}(hm:Mk l m sO)(hl:l.length<=4096)(hv:RL l)(t:Int):call gl tab n 35 [.lst f m (hs l),i64 t] []=some (i64 (usd l t l.length),[],[]):=by
 obtain⟨d,rfl⟩:=wB h
 have hst:∀i,i<l.length->zbn [.slot 0,.slot 1,.slot 5,.slot 6] (evC gl (call gl tab d) L35 (S35 f m l t i))=some (S35 f m l t (i+1)):=fun i hi=>by
  have hx:=zeq hi
  obtain rfl:=hm.eq hi
  have h1:=z6z hv t (show i<=l.length by omega)
  have h2:=(hv i hi).sz
  by_cases hp:(oat l i).tn=t
  . have hq:((oat l i).tn==t)=true:=by simpa using hp
    have e:=z8h (l:=l) (i:=i) hp
    simp(disch:=apply zq;omega) only[go_sem,simprocAttr,↓Nat.reduceEqDiff,xx,L35,m35,S35,zaa,hx,hq,e]
  . have hq:((oat l i).tn==t)=false:=by simpa using hp
    have e:=z8i (l:=l) (i:=i) hp
    simp(disch:=apply zq;omega) only[go_sem,simprocAttr,↓Nat.reduceEqDiff,xx,L35,m35,S35,zaa,hx,hq,e]
 simp only[L35,m35]at hst
 rw[zah (fd:=fd35) rfl]
 simp(disch:=apply zq;omega) only[go_sem,simprocAttr,↓Nat.reduceEqDiff,xx,fd35,m35,zaa]
 rw[zam (S35 f m l t) l.length (by unfold LF;omega)]
 . simp(disch:=apply zq;omega) only[go_sem,simprocAttr,↓Nat.reduceEqDiff,xx,S35,zaa]
 . simp(disch:=apply zq;omega) only[go_sem,simprocAttr,↓Nat.reduceEqDiff,xx,S35,zaa,qhd]
 . exact hst
 . simp(disch:=apply zq;omega) only[go_sem,simprocAttr,↓Nat.reduceEqDiff,xx,S35,zaa]
end Go.Proofs.S17
