/-
  Chapter 17: objects; which are right; the first object of a name, of a tenant's account; what a tenant's objects have. No condition.
-/
import Derived.Test.YthipjfnealbheaaDoorW17G4x5
import Derived.Test.YthipjfnealbheaaDoorW17G6x5
import Derived.Test.YthipjfnealbheaaDoorW17G14x5
import Derived.Test.YthipjfnealbheaaDoorMp
set_option linter.all false
open Nat renaming exists_eq_add_of_le'->wB,le_refl->wC,lt_irrefl->wD
namespace Go.Proofs.S17
open Go Go.Ev Go.Proofs Go.Proofs.S17.Q
variable {gl :Gl} {n:Nat}
theorem z18 (a b:List UInt8):zio .lss a b=some (.bool (Bl.lt a b)):=rfl
theorem qdy (a b:List UInt8):(Op.bytesLess a b||a==b)= !Bl.lt b a:=by
 show(Bl.lt a b||a==b)= !Bl.lt b a
 rcases Bl.tri a b with h|rfl|h
 . rw[h,Bl.asymm h];rfl
 . rw[Bl.irrefl];simp
 . rw[h,Bl.asymm h]
   have:=(Bl.ne h).symm
   simpa using this
theorem z7a (a b:List UInt8):zio .gtr a b=some (.bool (Bl.lt b a)):=by
 show some (AV.bool (!(Op.bytesLess a b||a==b)))=_
 rw[qdy,Bool.not_not]
theorem zrc (a b:List UInt8):zio .leq a b=some (.bool (!Bl.lt b a)):=by
 show some (AV.bool (Op.bytesLess a b||a==b))=_
 rw[qdy]
structure Ob where
 nm:List UInt8
 tn:Int
 sz:Int
 la:Int
abbrev oV (o:Ob):AV:=.agg [.str o.nm,i64 o.tn,i64 o.sz,i64 o.la]
def hs (l:List Ob):List AV:=l.map oV
abbrev sO :Sh:=.st [.sc,.sc,.sc,.sc]
def oat (l:List Ob)(i:Nat):Ob:=l.getD i ⟨[],0,0,0⟩
theorem zaa (l:List Ob):(hs l).length=l.length:=by simp[hs]
theorem zeq {l:List Ob}{i:Nat}(h:i<l.length):(hs l)[i]? =some (.agg [.str (oat l i).nm,i64 (oat l i).tn,i64 (oat l i).sz,i64 (oat l i).la]):=by simp[hs,oat,h]
theorem zev :hs []=[]:=rfl
theorem zuj (l:List Ob)(s:Ob):hs (l++[s])=hs l++[.agg [.str s.nm,i64 s.tn,i64 s.sz,i64 s.la]]:=by simp[hs]
theorem zor (l:List Ob)(v:AV):(hs l++[v]).take (l.length+1)=hs l++[v]:=by rw[<-zaa];exact List.take_of_length_le (by simp)
theorem zoq (l:List Ob):(hs l).take l.length=hs l:=by rw[<-zaa];exact List.take_length
structure ROk (o:Ob):Prop where
 nl:1<=o.nm.length/\o.nm.length<=4096
 sz:1<=o.sz/\o.sz<=1099511627776
 la:0<=o.la/\o.la<=1099511627776
theorem zj8 (h:1<=n)(o:Ob):∃b:Bool,(b=true↔ROk o)/\call gl tab n 31 [oV o] []=some (.bool b,[],[]):=by
 obtain⟨d,rfl⟩:=wB h
 rw[zah (fd:=fd31) rfl]
 by_cases h1:1<=o.nm.length
 case neg=>exact⟨false,⟨(fun h=>by cases h),fun h=>absurd h.nl.1 h1⟩,by simp(disch:=apply zq;omega) only[go_sem,simprocAttr,↓Nat.reduceEqDiff,xx,fd31,m31]⟩
 by_cases h2:o.nm.length<=4096
 case neg=>exact⟨false,⟨(fun h=>by cases h),fun h=>absurd h.nl.2 h2⟩,by simp(disch:=apply zq;omega) only[go_sem,simprocAttr,↓Nat.reduceEqDiff,xx,fd31,m31]⟩
 by_cases h3:1<=o.sz
 case neg=>exact⟨false,⟨(fun h=>by cases h),fun h=>absurd h.sz.1 h3⟩,by simp(disch:=apply zq;omega) only[go_sem,simprocAttr,↓Nat.reduceEqDiff,xx,fd31,m31]⟩
 by_cases h4:o.sz<=1099511627776
 case neg=>exact⟨false,⟨(fun h=>by cases h),fun h=>absurd h.sz.2 h4⟩,by simp(disch:=apply zq;omega) only[go_sem,simprocAttr,↓Nat.reduceEqDiff,xx,fd31,m31]⟩
 by_cases h5:0<=o.la
 case neg=>exact⟨false,⟨(fun h=>by cases h),fun h=>absurd h.la.1 h5⟩,by simp(disch:=apply zq;omega) only[go_sem,simprocAttr,↓Nat.reduceEqDiff,xx,fd31,m31]⟩
 by_cases h6:o.la<=1099511627776
 case neg=>exact⟨false,⟨(fun h=>by cases h),fun h=>absurd h.la.2 h6⟩,by simp(disch:=apply zq;omega) only[go_sem,simprocAttr,↓Nat.reduceEqDiff,xx,fd31,m31]⟩
 exact⟨true,⟨fun _=>⟨⟨h1,h2⟩,⟨h3,h4⟩,⟨h5,h6⟩⟩,fun _=>rfl⟩,by simp(disch:=apply zq;omega) only[go_sem,simprocAttr,↓Nat.reduceEqDiff,xx,fd31,m31]⟩
theorem zps (h:1<=n)(o:Ob):∃b:Bool,(b=true↔ROk o)/\call gl tab n 33 [oV o] []=some (.bool b,[],[]):=by
 obtain⟨d,rfl⟩:=wB h
 rw[zah (fd:=fd33) rfl]
 by_cases h1:1<=o.nm.length
 case neg=>exact⟨false,⟨(fun h=>by cases h),fun h=>absurd h.nl.1 h1⟩,by simp(disch:=apply zq;omega) only[go_sem,simprocAttr,↓Nat.reduceEqDiff,xx,fd33,m33]⟩
 by_cases h2:o.nm.length<=4096
 case neg=>exact⟨false,⟨(fun h=>by cases h),fun h=>absurd h.nl.2 h2⟩,by simp(disch:=apply zq;omega) only[go_sem,simprocAttr,↓Nat.reduceEqDiff,xx,fd33,m33]⟩
 by_cases h3:1<=o.sz
 case neg=>exact⟨false,⟨(fun h=>by cases h),fun h=>absurd h.sz.1 h3⟩,by simp(disch:=apply zq;omega) only[go_sem,simprocAttr,↓Nat.reduceEqDiff,xx,fd33,m33]⟩
 by_cases h4:o.sz<=1099511627776
 case neg=>exact⟨false,⟨(fun h=>by cases h),fun h=>absurd h.sz.2 h4⟩,by simp(disch:=apply zq;omega) only[go_sem,simprocAttr,↓Nat.reduceEqDiff,xx,fd33,m33]⟩
 by_cases h5:0<=o.la
 case neg=>exact⟨false,⟨(fun h=>by cases h),fun h=>absurd h.la.1 h5⟩,by simp(disch:=apply zq;omega) only[go_sem,simprocAttr,↓Nat.reduceEqDiff,xx,fd33,m33]⟩
 by_cases h6:o.la<=1099511627776
 case neg=>exact⟨false,⟨(fun h=>by cases h),fun h=>absurd h.la.2 h6⟩,by simp(disch:=apply zq;omega) only[go_sem,simprocAttr,↓Nat.reduceEqDiff,xx,fd33,m33]⟩
 exact⟨true,⟨fun _=>⟨⟨h1,h2⟩,⟨h3,h4⟩,⟨h5,h6⟩⟩,fun _=>rfl⟩,by simp(disch:=apply zq;omega) only[go_sem,simprocAttr,↓Nat.reduceEqDiff,xx,fd33,m33]⟩
def ix (k N:Nat):Int:=if k<N then(k:Int)else -1
def L34 :MC:=match m34 with| .seq _ (.seq (.seq _ (.block _ (.loop _ b))) _)=>b|_=>.skip
def S34 (f:Bool)(m:Sh)(l:List A3)(x:Int)(i:Nat):St:=⟨[.set 5 (i64 i),.set 1 (i64 x),.set 0 (.lst f m (ac l))],[]⟩
theorem zyt (h:1<=n){f:Bool}{m:Sh}{l:List A3}(hm:Mk l m sA)(hl:l.length<2^60)(x:Int) :
  ∃k:Nat,k<=l.length/\(∀j,j<k->(aat l j).t≠x)/\(k<l.length->(aat l k).t=x)/\call gl tab n 34 [.lst f m (ac l),i64 x] []=some (i64 (ix k l.length),[],[]):=by
 obtain⟨d,rfl⟩:=wB h
 have hst:∀i,i<l.length->(aat l i).t≠x->zbp [.slot 0,.slot 1,.slot 5] (evC gl (call gl tab d) L34 (S34 f m l x i))=some (S34 f m l x (i+1)):=fun i hi hp=>by
  have hx:=zeo hi
  obtain rfl:=hm.eq hi
  have hq:((aat l i).t==x)=false:=by simpa using hp
  simp(disch:=apply zq;omega) only[go_sem,simprocAttr,↓Nat.reduceEqDiff,xx,L34,m34,S34,zac,hx,hq]
 have hf:∀i,i<l.length->¬(aat l i).t≠x->out1 4 (evC gl (call gl tab d) L34 (S34 f m l x i))=some (.ret,i64 i):=fun i hi hp=>by
  have hx:=zeo hi
  obtain rfl:=hm.eq hi
  have hq:((aat l i).t==x)=true:=by simpa using hp
  simp(disch:=apply zq;omega) only[go_sem,simprocAttr,↓Nat.reduceEqDiff,xx,L34,m34,S34,zac,hx,hq]
 rw[zah (fd:=fd34) rfl]
 rcases first_fail (fun i=>(aat l i).t≠x) l.length with ha|⟨k,hk,hb,he⟩
 . refine⟨l.length,wC _,ha,fun h=>absurd h (wD _),?_⟩
   have hs2:=fun i hi=>hst i hi (ha i hi)
   simp only[L34,m34]at hs2
   rw[ix,if_neg (wD _)]
   simp(disch:=apply zq;omega) only[go_sem,simprocAttr,↓Nat.reduceEqDiff,xx,fd34,m34,zac]
   rw[zao (S34 f m l x) l.length (by unfold LF;omega)]
   . simp(disch:=apply zq;omega) only[go_sem,simprocAttr,↓Nat.reduceEqDiff,xx,S34,zac]
   . simp(disch:=apply zq;omega) only[go_sem,simprocAttr,↓Nat.reduceEqDiff,xx,S34,zac]
   . exact hs2
   . simp(disch:=apply zq;omega) only[go_sem,simprocAttr,↓Nat.reduceEqDiff,xx,S34,zac]
 . obtain⟨st,hst',hg⟩:=zcv (hf k hk he)
   have hs2:=fun i hi=>hst i (by omega) (hb i hi)
   simp only[L34,m34]at hs2 hst'
   refine⟨k,by omega,hb,fun _=>Classical.not_not.1 he,?_⟩
   rw[ix,if_pos hk]
   simp(disch:=apply zq;omega) only[go_sem,simprocAttr,↓Nat.reduceEqDiff,xx,fd34,m34,zac]
   rw[zao (S34 f m l x) k (by unfold LF;omega),hst']
   . simp(disch:=apply zq;omega) only[go_sem,simprocAttr,↓Nat.reduceEqDiff,xx,hg]
   . simp(disch:=apply zq;omega) only[go_sem,simprocAttr,↓Nat.reduceEqDiff,xx,S34,zac]
   . exact hs2
   . rw[hst'];rfl
def usd (l:List Ob)(t:Int):Nat->Int
 | 0=>0
 | i+1=>usd l t i+if(oat l i).tn=t then(oat l i).sz else 0
theorem qgc (l:List Ob)(t:Int):usd l t 0=0:=rfl
theorem z7t {l:List Ob}{t:Int}{i:Nat}(h:(oat l i).tn=t):usd l t (i+1)=usd l t i+(oat l i).sz:=by rw[usd,if_pos h]
theorem z7u {l:List Ob}{t:Int}{i:Nat}(h:(oat l i).tn≠t):usd l t (i+1)=usd l t i:=by rw[usd,if_neg h];omega
def RL (l:List Ob):Prop:=∀i,i<l.length->ROk (oat l i)
theorem z6g {l:List Ob}(hv:RL l)(t:Int):∀{i:Nat},i<=l.length->0<=usd l t i/\usd l t i<=(i:Int)*1099511627776
 | 0,_=>by simp[usd]
 | i+1,hi=>by
   have h1:=z6g hv t (show i<=l.length by omega)
   have h3:=(hv i (by omega)).sz
   by_cases h:(oat l i).tn=t
   . rw[z7t h];omega
   . rw[z7u h];omega
def L35 :MC:=match m35 with| .seq _ (.seq _ (.seq (.seq _ (.block _ (.loop _ b))) _))=>b|_=>.skip
def S35 (f:Bool)(m:Sh)(l:List Ob)(t:Int)(i:Nat):St:=⟨[.set 6 (i64 i),.set 5 (i64 (usd l t i)),.set 1 (i64 t),.set 0 (.lst f m (hs l))],[]⟩
theorem zxs (h:1<=n){f:Bool}{m:Sh}{l:List Ob}(hm:Mk l m sO)(hl:l.length<=4096)(hv:RL l)(t:Int):call gl tab n 35 [.lst f m (hs l),i64 t] []=some (i64 (usd l t l.length),[],[]):=by
 obtain⟨d,rfl⟩:=wB h
 have hst:∀i,i<l.length->zbp [.slot 0,.slot 1,.slot 5,.slot 6] (evC gl (call gl tab d) L35 (S35 f m l t i))=some (S35 f m l t (i+1)):=fun i hi=>by
  have hx:=zeq hi
  obtain rfl:=hm.eq hi
  have h1:=z6g hv t (show i<=l.length by omega)
  have h2:=(hv i hi).sz
  by_cases hp:(oat l i).tn=t
  . have hq:((oat l i).tn==t)=true:=by simpa using hp
    have e:=z7t (l:=l) (i:=i) hp
    simp(disch:=apply zq;omega) only[go_sem,simprocAttr,↓Nat.reduceEqDiff,xx,L35,m35,S35,zaa,hx,hq,e]
  . have hq:((oat l i).tn==t)=false:=by simpa using hp
    have e:=z7u (l:=l) (i:=i) hp
    simp(disch:=apply zq;omega) only[go_sem,simprocAttr,↓Nat.reduceEqDiff,xx,L35,m35,S35,zaa,hx,hq,e]
 simp only[L35,m35]at hst
 rw[zah (fd:=fd35) rfl]
 simp(disch:=apply zq;omega) only[go_sem,simprocAttr,↓Nat.reduceEqDiff,xx,fd35,m35,zaa]
 rw[zao (S35 f m l t) l.length (by unfold LF;omega)]
 . simp(disch:=apply zq;omega) only[go_sem,simprocAttr,↓Nat.reduceEqDiff,xx,S35,zaa]
 . simp(disch:=apply zq;omega) only[go_sem,simprocAttr,↓Nat.reduceEqDiff,xx,S35,zaa,qgc]
 . exact hst
 . simp(disch:=apply zq;omega) only[go_sem,simprocAttr,↓Nat.reduceEqDiff,xx,S35,zaa]
end Go.Proofs.S17
namespace Go.Proofs.S17
open Go Go.Ev Go.Proofs Go.Proofs.S17.Q
variable {gl :Gl} {n:Nat}
theorem zy8 (h:1<=n)(a:List UInt8):call gl tab n 68 [.str a] []=some (.bool false,[],[]):=by
 obtain⟨d,rfl⟩:=wB h
 have e:(a != a)=false:=by simp
 rw[zah (fd:=fd68) rfl]
 simp(disch:=apply zq;omega) only[go_sem,simprocAttr,↓Nat.reduceEqDiff,xx,fd68,m68,e]
theorem zs4 (h:2<=n)(a b:List UInt8):call gl tab n 55 [.str a,.str b] []=some (i64 (Bl.cmp a b),[],[]):=by
 obtain⟨d,rfl⟩:=wB h
 have c1:=@zy8 gl (d+1) (by omega) a
 have c2:=@zy8 gl (d+1) (by omega) b
 rw[zah (fd:=fd55) rfl]
 by_cases h1:Bl.lt a b=true
 . have e1:Bl.cmp a b=-1:=by rw[Bl.cmp,if_pos h1]
   simp(disch:=apply zq;omega) only[go_sem,simprocAttr,↓Nat.reduceEqDiff,xx,fd55,m55,c1,c2,e1,h1,z18]
 . have h1':Bl.lt a b=false:=by simpa using h1
   by_cases h2:Bl.lt b a=true
   . have e1:Bl.cmp a b=1:=by rw[Bl.cmp,if_neg h1,if_pos h2]
     simp(disch:=apply zq;omega) only[go_sem,simprocAttr,↓Nat.reduceEqDiff,xx,fd55,m55,c1,c2,e1,h1',h2,z18,z7a]
   . have e1:Bl.cmp a b=0:=by rw[Bl.cmp,if_neg h1,if_neg h2]
     have h2':Bl.lt b a=false:=by simpa using h2
     simp(disch:=apply zq;omega) only[go_sem,simprocAttr,↓Nat.reduceEqDiff,xx,fd55,m55,c1,c2,e1,h1',h2',z18,z7a]
theorem z5g (h:3<=n)(o:Ob)(x:List UInt8):call gl tab n 54 [oV o,.str x] []=some (i64 (Bl.cmp o.nm x),[],[]):=by
 obtain⟨d,rfl⟩:=wB h
 have c1:=@zs4 gl (d+2) (by omega) o.nm x
 rw[zah (fd:=fd54) rfl]
 simp(disch:=apply zq;omega) only[go_sem,simprocAttr,↓Nat.reduceEqDiff,xx,fd54,m54,c1]
def Srt (l:List Ob):Prop:=∀i j,i<j->j<l.length->Bl.lt (oat l i).nm (oat l j).nm=true
structure Pn (l:List Ob)(x:List UInt8)(k:Nat):Prop where
 le:k<=l.length
 lo:∀j,j<k->Bl.lt (oat l j).nm x=true
 hi:∀j,k<=j->j<l.length->Bl.lt (oat l j).nm x=false
def L53 :MC:=match m53 with| .seq _ (.seq _ (.seq _ (.seq (.block _ (.loop _ b)) _)))=>b|_=>.skip
def S53 (f:Bool)(m:Sh)(l:List Ob)(x:List UInt8)(a:Nat×Nat):St :=
 ⟨[.set 10 (i64 a.2),.set 9 (i64 a.1),.set 8 (i64 l.length),.set 2 (.fn 54 []),.set 1 (.str x),.set 0 (.lst f m (hs l))],[]⟩
def nxtN (l:List Ob)(x:List UInt8)(a:Nat×Nat):Nat×Nat:=if Bl.lt (oat l ((a.1+a.2)/2)).nm x=true then((a.1+a.2)/2+1,a.2)else(a.1,(a.1+a.2)/2)
def isAt (l:List Ob)(x:List UInt8)(k:Nat):Bool:=decide (k<l.length)&&decide ((oat l k).nm=x)
set_option maxHeartbeats 800000 in
theorem zvi (h:4<=n){f:Bool}{m:Sh}{l:List Ob}(hm:Mk l m sO)(hn:l.length<=8192)(hv:Srt l)(x:List UInt8) :
  ∃k:Nat,Pn l x k/\call gl tab n 53 [.lst f m (hs l),.str x,.fn 54 []] []=some (.tup [i64 k,.bool (isAt l x k)],[],[]):=by
 obtain⟨d,rfl⟩:=wB h
 have c47:=@z5g gl (d+3) (by omega)
 obtain⟨⟨k,k'⟩,⟨i1,i2,i3⟩,hgo,hit⟩:=zif (f:=evC gl (call gl tab (d+3)) L53) (ks:=[.slot 0,.slot 1,.slot 2,.slot 8,.slot 9,.slot 10]) (S53 f m l x)
  (fun a=>a.1<=a.2/\a.2<=l.length/\(∀t,t<a.1->Bl.lt (oat l t).nm x=true)/\∀t,a.2<=t->t<l.length->Bl.lt (oat l t).nm x=false) (fun a=>a.2-a.1)
  (nxtN l x) (fun a=>decide (a.1<a.2)) (a0:=(0,l.length)) (by unfold LF;simp;omega)
  ⟨Nat.zero_le _,wC _,fun t ht=>absurd ht (Nat.not_lt_zero _),fun t h1 h2=>absurd h2 (by simp at h1;omega)⟩
  (fun a ⟨h1,h2,h3,h4⟩ hg=>by
    obtain⟨i,j⟩:=a
    simp only[decide_eq_true_eq]at hg h1 h2 h3 h4 ⊢
    have hmid:=z6r i j (by omega)
    have hml:(i+j)/2<l.length:=by omega
    have hx:=zeq hml
    have hm2:=hm.eq hml
    have c:=c47 (oat l ((i+j)/2)) x
    by_cases hc:Bl.lt (oat l ((i+j)/2)).nm x=true
    . have e:nxtN l x (i,j)=((i+j)/2+1,j):=if_pos hc
      rw[e]
      refine⟨?_,⟨by simp only;omega,h2,fun t ht'=> ?_,h4⟩,by simp only;omega⟩
      . have hc':=Bl.cmp_lt.2 hc
        generalize Bl.cmp (oat l ((i+j)/2)).nm x=cv at *
        generalize (i+j)/2=m' at *
        simp(disch:=apply zq;omega) only[go_sem,simprocAttr,↓Nat.reduceEqDiff,xx,L53,m53,S53,hmid,hx,hm2,zaa,c]
      . simp only at ht'
        by_cases h5:t=(i+j)/2
        . rw[h5];exact hc
        . exact Bl.trans (hv t _ (show t<(i+j)/2 by omega) hml) hc
    . have e:nxtN l x (i,j)=(i,(i+j)/2):=if_neg hc
      rw[e]
      have hcf:Bl.lt (oat l ((i+j)/2)).nm x=false:=by simpa using hc
      refine⟨?_,⟨by simp only;omega,by simp only;omega,h3,fun t ht' h6=> ?_⟩,by simp only;omega⟩
      . have hc':¬Bl.cmp (oat l ((i+j)/2)).nm x<0:=fun h=>hc (Bl.cmp_lt.1 h)
        generalize Bl.cmp (oat l ((i+j)/2)).nm x=cv at *
        generalize (i+j)/2=m' at *
        simp(disch:=apply zq;omega) only[go_sem,simprocAttr,↓Nat.reduceEqDiff,xx,L53,m53,S53,hmid,hx,hm2,zaa,c]
      . simp only at ht'
        by_cases h5:t=(i+j)/2
        . rw[h5];exact hcf
        . cases h7:Bl.lt (oat l t).nm x with
          | false=>rfl
          | true=>exact absurd (Bl.trans (hv _ t (show(i+j)/2<t by omega) h6) h7) hc)
  (fun a ⟨h1,h2,h3,h4⟩ hg=>by
    simp only[decide_eq_false_iff_not]at hg
    simp(disch:=apply zq;omega) only[go_sem,simprocAttr,↓Nat.reduceEqDiff,xx,L53,m53,S53,zaa])
 simp only[decide_eq_false_iff_not]at hgo i1 i2 i3
 obtain rfl:k=k':=by omega
 simp only[L53,m53]at hit
 refine⟨k,⟨i2,i3.1,i3.2⟩,?_⟩
 by_cases hkl:k<l.length
 . have hx:=zeq hkl
   have hm2:=hm.eq hkl
   have c:=c47 (oat l k) x
   have e:isAt l x k=(Bl.cmp (oat l k).nm x==0):=by
    rw[isAt,decide_eq_true hkl,Bool.true_and]
    cases hq:(Bl.cmp (oat l k).nm x==0)with
    | true=>exact decide_eq_true (Bl.cmp_eq.1 (by simpa using hq))
    | false=>exact decide_eq_false fun h=>by rw[Bl.cmp_eq.2 h]at hq;cases hq
   rw[e,zah (fd:=fd53) rfl]
   simp(disch:=apply zq;omega) only[go_sem,simprocAttr,↓Nat.reduceEqDiff,xx,fd53,m53,zaa]
   rw[hit _ (by simp(disch:=apply zq;omega) only[go_sem,simprocAttr,↓Nat.reduceEqDiff,xx,S53])]
   simp(disch:=apply zq;omega) only[go_sem,simprocAttr,↓Nat.reduceEqDiff,xx,S53,zaa,hx,hm2,c]
 . have e:isAt l x k=false:=by rw[isAt,decide_eq_false hkl,Bool.false_and]
   rw[e,zah (fd:=fd53) rfl]
   simp(disch:=apply zq;omega) only[go_sem,simprocAttr,↓Nat.reduceEqDiff,xx,fd53,m53,zaa]
   rw[hit _ (by simp(disch:=apply zq;omega) only[go_sem,simprocAttr,↓Nat.reduceEqDiff,xx,S53])]
   simp(disch:=apply zq;omega) only[go_sem,simprocAttr,↓Nat.reduceEqDiff,xx,S53,zaa]
theorem z88 {l:List Ob}{x:List UInt8}{k k':Nat}(h:Pn l x k)(h':Pn l x k'):k=k':=by
 rcases Nat.lt_trichotomy k k' with h1|h1|h1
 . have a:=h'.lo k h1
   rw[h.hi k (wC _) (by have:=h'.le;omega)]at a;cases a
 . exact h1
 . have a:=h.lo k' h1
   rw[h'.hi k' (wC _) (by have:=h.le;omega)]at a;cases a
theorem zgu (h:5<=n){f:Bool}{m:Sh}{l:List Ob}(hm:Mk l m sO)(hn:l.length<=8192)(hv:Srt l)(x:List UInt8) :
  ∃k:Nat,Pn l x k/\call gl tab n 38 [.lst f m (hs l),.str x] []=some (.tup [i64 k,.bool (isAt l x k)],[],[]):=by
 obtain⟨d,rfl⟩:=wB h
 obtain⟨k,hk,c⟩:=@zvi gl (d+4) (by omega) f m l hm hn hv x
 refine⟨k,hk,?_⟩
 rw[zah (fd:=fd38) rfl]
 simp(disch:=apply zq;omega) only[go_sem,simprocAttr,↓Nat.reduceEqDiff,xx,fd38,m38,c]
end Go.Proofs.S17
