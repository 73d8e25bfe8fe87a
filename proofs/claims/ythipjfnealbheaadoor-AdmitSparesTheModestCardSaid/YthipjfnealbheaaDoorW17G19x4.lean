/-
  Chapter 16: use. No condition.
-/
import Derived.Test.YthipjfnealbheaaDoorW17G4x4
import Derived.Test.YthipjfnealbheaaDoorW17G18x4
set_option linter.all false
open Nat renaming exists_eq_add_of_le'->wB,lt_trichotomy->wC
namespace Go.Proofs.S17.Q
open Go Go.Ev Go.Proofs
variable {gl :Gl} {n:Nat}
def uerr (l:List A3)(k:Nat)(v:Int)(b:Bool):Int:=if b then(if 1099511627776<v\/v < -1099511627776\/(aat l k).u+v<0\/1099511627776<(aat l k).u+v then 1 else 0)else 5
def updA (l:List A3)(k:Nat)(v:Int):List A3:=l.set k ⟨(aat l k).t,(aat l k).w,(aat l k).u+v⟩
theorem z8l (l:List A3)(k:Nat)(v:Int):(ac l).set k (.agg [i64 (aat l k).t,i64 (aat l k).w,i64 ((aat l k).u+v)])=ac (updA l k v):=by simp[updA,ac,List.map_set]
theorem za4 (l:List A3)(k:Nat)(v:Int):(updA l k v).length=l.length:=by simp[updA]
theorem qc2 (h:6<=n){l:List A3}(hv:VA l){q v:Int}{k:Nat}(hkl:k<l.length)(he:uerr l k v true=0)
  (c40:call gl tab (n-1) 58 [.lst false sA (ac l),i64 q] []=some (.tup [i64 k,.bool true],[],[])) :
  call gl tab n 41 [.lst false sA (ac l),i64 q,i64 v] []=some (.tup [.lst false sA (ac (updA l k v)),i64 0],[],[]):=by
 obtain⟨d,rfl⟩:=wB h
 rw[show d+6-1=d+5 from rfl]at c40;have c:=c40;clear c40
 have hn:=hv.n
 have hx:=zd7 hkl
 have hu:=(hv.ok k hkl).u
 have he2:¬(1099511627776<v\/v < -1099511627776\/(aat l k).u+v<0\/1099511627776<(aat l k).u+v):=fun h=>by rw[uerr,if_pos rfl,if_pos h]at he;omega
 have c42:=@zu7 gl (d+5) (by omega) false l (by omega)
 have e1:=z8l l k v
 have e2:=zvl (updA l k v)
 rw[za4]at e2
 rw[zah (fd:=fd41) rfl]
 simp(disch:=apply zq;omega) only[go_sem,simprocAttr,↓Nat.reduceEqDiff,xx,fd41,m41,c,zac,hx,c42,e1,e2,za4]
theorem zey {l:List A3}{k:Nat}(hk:k<l.length)(v:Int)(i:Nat):aat (updA l k v) i=if i=k then⟨(aat l k).t,(aat l k).w,(aat l k).u+v⟩else aat l i:=by
 unfold updA
 by_cases h:i=k
 . subst h;rw[if_pos rfl];simp[aat,List.getD_eq_getElem?_getD,hk]
 . rw[if_neg h];unfold aat
   simp only[List.getD_eq_getElem?_getD];rw[List.getElem?_set_ne (by omega)]
theorem zmi {l:List A3}(hv:VA l){v:Int}{k:Nat}(hkl:k<l.length)(he:uerr l k v true=0):VA (updA l k v):=by
 have he2:¬(1099511627776<v\/v < -1099511627776\/(aat l k).u+v<0\/1099511627776<(aat l k).u+v):=fun h=>by rw[uerr,if_pos rfl,if_pos h]at he;omega
 have et:∀i,(aat (updA l k v) i).t=(aat l i).t:=fun i=>by rw[zey hkl];split<;>simp_all
 have ew:∀i,(aat (updA l k v) i).w=(aat l i).w:=fun i=>by rw[zey hkl];split<;>simp_all
 refine⟨by rw[za4];exact hv.n,fun i hi=> ?_⟩
 rw[za4]at hi
 have o:=hv.ok i hi
 have op:zle (updA l k v) i=zle l i:=by cases i<;>simp[zle,et]
 refine⟨by rw[et,op];exact o.t,by rw[ew];exact o.w,?_⟩
 rw[zey hkl]
 by_cases h:i=k
 . rw[if_pos h];simp only;omega
 . rw[if_neg h];exact o.u
end Go.Proofs.S17.Q
namespace Go.Proofs.S17
open Go Go.Ev Go.Proofs Go.Proofs.S17.Q
variable {gl :Gl} {n:Nat}
def Tn (l:List A3):Prop:=∀i,i<l.length->(aat l i).t<=9223372036854775807
abbrev I64 (q:Int):Prop:=-9223372036854775808<=q/\q<=9223372036854775807
theorem place_at (h:3<=n){l:List A3}(hv:VA l)(ht:Tn l){q:Int}(hq:I64 q) :
  ∃(k:Nat) (b:Bool),k<=l.length/\(b=true->k<l.length/\(aat l k).t=q)/\(b=false->∀j,j<l.length->(aat l j).t≠q) /\
   call gl tab n 58 [.lst false sA (ac l),i64 q] []=some (.tup [i64 k,.bool b],[],[]):=by
 obtain⟨d,rfl⟩:=wB h
 have hn:=hv.n
 obtain⟨k,hk,hp,b,hb,c46⟩:=@zyu gl (d+2) (by omega) false sA l (.inr rfl) hv ht q hq
 have hk2:b=true->k<l.length/\(aat l k).t=q:=fun h=>by
  obtain⟨j,hj,hj2⟩:=hb.1 h
  have h0:0<q:=by have:=zez hv hj;omega
  have p:=hp h0
  rcases wC j k with h3|h3|h3
  . have:=p.lo j h3;omega
  . subst h3;exact⟨hj,hj2⟩
  . have:=zh2 hv h3 hj
    have:=p.hi k (Nat.le_refl _) (by omega);omega
 refine⟨k,b,hk,hk2,(fun h j hj h'=>by have:=hb.2 ⟨j,hj,h'⟩;rw[h]at this;cases this),?_⟩
 rw[zah (fd:=fd58) rfl]
 simp(disch:=apply zq;omega) only[go_sem,simprocAttr,↓Nat.reduceEqDiff,xx,fd58,m58,c46]
theorem ziu {l:List A3}(hv:VA l){i j:Nat}(hi:i<l.length)(hj:j<l.length)(e:(aat l i).t=(aat l j).t):i=j:=by
 rcases wC i j with h|h|h
 . have:=zh2 hv h hj;omega
 . exact h
 . have:=zh2 hv h hi;omega
theorem zrx (h:6<=n){l:List A3}(hv:VA l)(ht:Tn l){q v:Int}(hq:I64 q){k:Nat}(hk:k<l.length)(hkq:(aat l k).t=q)(he:uerr l k v true=0) :
  call gl tab n 41 [.lst false sA (ac l),i64 q,i64 v] []=some (.tup [.lst false sA (ac (updA l k v)),i64 0],[],[]):=by
 obtain⟨k',b,h1,h2,h3,c⟩:=@place_at gl (n-1) (by omega) l hv ht q hq
 cases b with
 | false=>exact absurd hkq (h3 rfl k hk)
 | true =>
   obtain⟨h4,h5⟩:=h2 rfl
   obtain rfl:=ziu hv hk h4 (hkq.trans h5.symm)
   exact qc2 h hv hk he c
def cmpI (a b:Int):Int:=if a<b then -1 else if b<a then 1 else 0
theorem zzr (h:1<=n)(a:Int):call gl tab n 84 [i64 a] []=some (.bool false,[],[]):=by
 obtain⟨d,rfl⟩:=wB h
 have e:(a != a)=false:=by simp
 rw[zah (fd:=fd84) rfl]
 simp(disch:=apply zq;omega) only[go_sem,simprocAttr,↓Nat.reduceEqDiff,xx,fd84,m84,e]
theorem zpe (h:2<=n)(a b:Int):call gl tab n 78 [i64 a,i64 b] []=some (i64 (cmpI a b),[],[]):=by
 obtain⟨d,rfl⟩:=wB h
 have c1:=@zzr gl (d+1) (by omega) a
 have c2:=@zzr gl (d+1) (by omega) b
 rw[zah (fd:=fd78) rfl]
 by_cases h1:a<b
 . have e1:cmpI a b=-1:=by rw[cmpI,if_pos h1]
   simp(disch:=apply zq;omega) only[go_sem,simprocAttr,↓Nat.reduceEqDiff,xx,fd78,m78,c1,c2,e1]
 . by_cases h2:b<a
   . have e1:cmpI a b=1:=by rw[cmpI,if_neg h1,if_pos h2]
     simp(disch:=apply zq;omega) only[go_sem,simprocAttr,↓Nat.reduceEqDiff,xx,fd78,m78,c1,c2,e1]
   . have e1:cmpI a b=0:=by rw[cmpI,if_neg h1,if_neg h2]
     simp(disch:=apply zq;omega) only[go_sem,simprocAttr,↓Nat.reduceEqDiff,xx,fd78,m78,c1,c2,e1]
def orL :List Int->Int
 | []=>0
 | x::r=>if x=0 then orL r else x
theorem zzm :∀{l:List Int},(∀i,i<l.length->nat l i=0)->orL l=0
 | [],_=>rfl
 | x::r,h=>by
   have h0:x=0:=h 0 (by simp)
   rw[orL,if_pos h0]
   exact zzm fun i hi=>h (i+1) (by simpa using hi)
theorem zqo :∀{l:List Int} {k:Nat},k<l.length->(∀i,i<k->nat l i=0)->nat l k≠0->orL l=nat l k
 | [],k,hk,_,_=>by simp at hk
 | x::r,0,_,_,h=>by
   have:x≠0:=h
   rw[orL,if_neg this];rfl
 | x::r,k+1,hk,hz,h=>by
   have h0:x=0:=hz 0 (by omega)
   rw[orL,if_pos h0]
   exact zqo (l:=r) (k:=k) (by simpa using hk) (fun i hi=>hz (i+1) (by omega)) h
def L77 :MC:=match m77 with| .seq _ (.seq _ (.seq (.seq _ (.block _ (.loop _ b))) _))=>b|_=>.skip
def S77 (f:Bool)(l:List Int)(i:Nat):St:=⟨[.set 8 (i64 i),.set 7 (i64 l.length),.set 6 (.lst f .sc (ns l)),.set 3 (i64 0)],[]⟩
theorem qd8 (h:1<=n){f:Bool}{l:List Int}(hl:l.length<2^20):call gl tab n 77 [.lst f .sc (ns l)] []=some (i64 (orL l),[],[]):=by
 obtain⟨d,rfl⟩:=wB h
 have hst:∀i,i<l.length->nat l i=0->zbn [.slot 3,.slot 6,.slot 7,.slot 8] (evC gl (call gl tab d) L77 (S77 f l i))=some (S77 f l (i+1)):=fun i hi hp=>by
  have hx:=ns_at hi
  rw[hp]at hx
  simp(disch:=apply zq;omega) only[go_sem,simprocAttr,↓Nat.reduceEqDiff,xx,L77,m77,S77,ns_length,hx]
 have hf:∀i,i<l.length->¬nat l i=0->out1 2 (evC gl (call gl tab d) L77 (S77 f l i))=some (.ret,i64 (nat l i)):=fun i hi hp=>by
  have hx:=ns_at hi
  have e:(nat l i != 0)=true:=by simpa using hp
  simp(disch:=apply zq;omega) only[go_sem,simprocAttr,↓Nat.reduceEqDiff,xx,L77,m77,S77,ns_length,hx,e]
 rw[zah (fd:=fd77) rfl]
 rcases first_fail (fun i=>nat l i=0) l.length with ha|⟨k,hk,hb,he⟩
 . have hs2:=fun i hi=>hst i hi (ha i hi)
   simp only[L77,m77]at hs2
   rw[zzm ha]
   simp(disch:=apply zq;omega) only[go_sem,simprocAttr,↓Nat.reduceEqDiff,xx,fd77,m77,ns_length]
   rw[zam (S77 f l) l.length (by unfold LF;omega)]
   . simp(disch:=apply zq;omega) only[go_sem,simprocAttr,↓Nat.reduceEqDiff,xx,S77,ns_length]
   . simp(disch:=apply zq;omega) only[go_sem,simprocAttr,↓Nat.reduceEqDiff,xx,S77,ns_length]
   . exact hs2
   . simp(disch:=apply zq;omega) only[go_sem,simprocAttr,↓Nat.reduceEqDiff,xx,S77,ns_length]
 . obtain⟨st,hst',hg⟩:=zcq (hf k hk he)
   have hs2:=fun i (hi:i<k)=>hst i (by omega) (hb i hi)
   simp only[L77,m77]at hs2 hst'
   rw[zqo hk hb he]
   simp(disch:=apply zq;omega) only[go_sem,simprocAttr,↓Nat.reduceEqDiff,xx,fd77,m77,ns_length]
   rw[zam (S77 f l) k (by unfold LF;omega),hst']
   . simp(disch:=apply zq;omega) only[go_sem,simprocAttr,↓Nat.reduceEqDiff,xx,hg]
   . simp(disch:=apply zq;omega) only[go_sem,simprocAttr,↓Nat.reduceEqDiff,xx,S77,ns_length]
   . exact hs2
   . rw[hst'];rfl
end Go.Proofs.S17
