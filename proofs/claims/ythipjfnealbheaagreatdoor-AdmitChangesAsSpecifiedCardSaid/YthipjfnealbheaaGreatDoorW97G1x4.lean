/-
  Chapter 16: shares and accounts; the functions that look at each of them once. No condition.
-/
import Derived.Test.YthipjfnealbheaaGreatDoorW97
import Derived.Test.YthipjfnealbheaaGreatDoorEvY
set_option linter.all false
open List renaming take_length->wB,take_of_length_le->wC
open Nat renaming exists_eq_add_of_le'->wD,shiftRight_eq_div_pow->wE,mod_eq_of_lt->wF,le_refl->wG
open BitVec renaming toNat_ushiftRight->wH,toNat_ofNat->wJ
namespace Go.Proofs.S97.Q
open Go Go.Ev Go.Proofs
variable {gl :Gl} {n:Nat}
abbrev i64 (n:Int):AV:=.int .i64 n
structure S2 where
 w:Int
 x:Int
structure A3 where
 t:Int
 w:Int
 u:Int
def sh (l:List S2):List AV:=l.map fun s=>.agg [i64 s.w,i64 s.x]
def ac (l:List A3):List AV:=l.map fun s=>.agg [i64 s.t,i64 s.w,i64 s.u]
def ns (l:List Int):List AV:=l.map i64
abbrev sS :Sh:=.st [.sc,.sc]
abbrev sA :Sh:=.st [.sc,.sc,.sc]
def sat (l:List S2)(i:Nat):S2:=l.getD i ⟨0,0⟩
def aat (l:List A3)(i:Nat):A3:=l.getD i ⟨0,0,0⟩
def nat (l:List Int)(i:Nat):Int:=l.getD i 0
theorem zbv (l:List S2):(sh l).length=l.length:=by simp[sh]
theorem zad (l:List A3):(ac l).length=l.length:=by simp[ac]
theorem ns_length (l:List Int):(ns l).length=l.length:=by simp[ns]
theorem qba {l:List S2}{i:Nat}(h:i<l.length):(sh l)[i]? =some (.agg [i64 (sat l i).w,i64 (sat l i).x]):=by simp[sh,sat,h]
theorem zej {l:List A3}{i:Nat}(h:i<l.length):(ac l)[i]? =some (.agg [i64 (aat l i).t,i64 (aat l i).w,i64 (aat l i).u]):=by simp[ac,aat,h]
theorem ns_at {l:List Int}{i:Nat}(h:i<l.length):(ns l)[i]? =some (i64 (nat l i)):=by simp[ns,nat,h]
theorem qfs :sh []=[]:=rfl
theorem qft (l:List S2)(s:S2):sh (l++[s])=sh l++[.agg [i64 s.w,i64 s.x]]:=by simp[sh]
theorem ns_app (l:List Int)(s:Int):ns (l++[s])=ns l++[i64 s]:=by simp[ns]
theorem qa9 (l:List S2)(v:AV):(sh l++[v]).take (l.length+1)=sh l++[v]:=by rw[<-zbv];exact wC (by simp)
theorem ns_take (l:List Int)(v:AV):(ns l++[v]).take (l.length+1)=ns l++[v]:=by rw[<-ns_length];exact wC (by simp)
theorem z40 (l:List S2):(sh l).take l.length=sh l:=by rw[<-zbv];exact wB
theorem zwm (l:List A3):(ac l).take l.length=ac l:=by rw[<-zad];exact wB
theorem ns_take' (l:List Int):(ns l).take l.length=ns l:=by rw[<-ns_length];exact wB
def Mk {α:Type}(l:List α)(s m:Sh):Prop:=l=[]\/s=m
theorem Mk.eq {α:Type}{l:List α}{s m:Sh}(h:Mk l s m){i:Nat}(hi:i<l.length):s=m:=h.resolve_left (by rintro rfl;simp at hi)
theorem first_fail (p:Nat->Prop)(N:Nat):(∀i,i<N->p i)\/∃k,k<N/\(∀j,j<k->p j)/\¬p k:=by
 classical
 by_cases h:∀i,i<N->p i
 . exact .inl h
 . obtain⟨h1,h2,h3⟩:=zgi p N
   refine .inr ⟨fstN p N,?_⟩
   rcases Nat.lt_or_ge (fstN p N) N with h4|h4
   . exact⟨h4,h2,h3 h4⟩
   . exact absurd (fun i hi=>h2 i (by omega)) h
structure SOk (s:S2):Prop where
 w:1<=s.w/\s.w<=1048576
 x:0<=s.x/\s.x<=1099511627776
structure VS (l:List S2):Prop where
 n:l.length<=1000
 ok:∀i,i<l.length->SOk (sat l i)
end Go.Proofs.S97.Q
namespace Go.Proofs.S97.Q
open Go Go.Ev Go.Proofs
variable {gl :Gl} {n:Nat}
def zlt (l:List A3):Nat->Int
 | 0=>0
 | i+1=>(aat l i).t
theorem zo4 (l:List A3):zlt l 0=0:=rfl
theorem z0p (l:List A3)(i:Nat):zlt l (i+1)=(aat l i).t:=rfl
structure AOk (l:List A3)(i:Nat):Prop where
 t:zlt l i<(aat l i).t
 w:1<=(aat l i).w/\(aat l i).w<=1048576
 u:0<=(aat l i).u/\(aat l i).u<=1099511627776
structure VA (l:List A3):Prop where
 n:l.length<=1000
 ok:∀i,i<l.length->AOk l i
def badA (l:List A3)(i:Nat):Bool:=decide ((aat l i).t<=zlt l i)||decide ((aat l i).w<1)||decide (1048576<(aat l i).w)||decide ((aat l i).u<0)||decide (1099511627776<(aat l i).u)
theorem z38 {l:List A3}{i:Nat}:badA l i=false↔AOk l i:=by
 simp only[badA,Bool.or_eq_false_iff,decide_eq_false_iff_not]
 exact⟨fun⟨⟨⟨⟨a,b⟩,c⟩,d⟩,e⟩=>⟨by omega,by omega,by omega⟩,fun⟨a,b,c⟩=>by omega⟩
theorem z9r {l:List A3}{i:Nat}:badA l i=true↔¬AOk l i:=by rw[<-z38];simp
def L20 :MC:=match m46 with| .seq _ (.seq _ (.seq (.seq _ (.block _ (.loop _ b))) _))=>b|_=>.skip
def S20 (f:Bool)(m:Sh)(l:List A3)(i:Nat):St:=⟨[.set 8 (i64 i),.set 7 (i64 l.length),.set 6 (.lst f m (ac l)),.set 3 (i64 (zlt l i)),.set 0 (.lst f m (ac l))],[]⟩
theorem zmt (h:1<=n){f:Bool}{m:Sh}{l:List A3}(hm:Mk l m sA)(hl:l.length<2^60):∃b:Bool,(b=true↔VA l)/\call gl tab n 46 [.lst f m (ac l)] []=some (.bool b,[],[]):=by
 obtain⟨d,rfl⟩:=wD h
 have hs:∀i,i<l.length->AOk l i->zba [.slot 0,.slot 3,.slot 6,.slot 7,.slot 8] (evC gl (call gl tab d) L20 (S20 f m l i))=some (S20 f m l (i+1)):=fun i hi hp=>by
  have hx:=zej hi
  obtain rfl:=hm.eq hi
  have hq:=z38.2 hp
  unfold badA at hq
  simp(disch:=apply zq;omega) only[go_sem,simprocAttr,↓Nat.reduceEqDiff,xx,L20,m46,S20,zad,hx,hq,z0p]
 have hf:∀i,i<l.length->¬AOk l i->out1 2 (evC gl (call gl tab d) L20 (S20 f m l i))=some (.ret,.bool false):=fun i hi hp=>by
  have hx:=zej hi
  obtain rfl:=hm.eq hi
  have hq:=z9r.2 hp
  unfold badA at hq
  simp(disch:=apply zq;omega) only[go_sem,simprocAttr,↓Nat.reduceEqDiff,xx,L20,m46,S20,zad,hx,hq]
 rw[zaf (fd:=fd46) rfl]
 rcases first_fail (AOk l) l.length with ha|⟨k,hk,hb,he⟩
 . refine⟨decide (l.length<=1000),⟨fun h=>⟨of_decide_eq_true h,ha⟩,fun h=>decide_eq_true h.n⟩,?_⟩
   have hs2:=fun i hi=>hs i hi (ha i hi)
   simp only[L20,m46]at hs2
   simp(disch:=apply zq;omega) only[go_sem,simprocAttr,↓Nat.reduceEqDiff,xx,fd46,m46,zad]
   rw[zaj (S20 f m l) l.length (by unfold LF;omega)]
   . simp(disch:=apply zq;omega) only[go_sem,simprocAttr,↓Nat.reduceEqDiff,xx,S20,zad]
   . simp(disch:=apply zq;omega) only[go_sem,simprocAttr,↓Nat.reduceEqDiff,xx,S20,zad,zo4]
   . exact hs2
   . simp(disch:=apply zq;omega) only[go_sem,simprocAttr,↓Nat.reduceEqDiff,xx,S20,zad]
 . obtain⟨st,hst,hg⟩:=zcw (hf k hk he)
   have hs2:=fun i hi=>hs i (by omega) (hb i hi)
   simp only[L20,m46]at hs2 hst
   refine⟨false,⟨(fun h=>by cases h),fun h=>absurd (h.ok k hk) he⟩,?_⟩
   simp(disch:=apply zq;omega) only[go_sem,simprocAttr,↓Nat.reduceEqDiff,xx,fd46,m46,zad]
   rw[zaj (S20 f m l) k (by unfold LF;omega),hst]
   . simp(disch:=apply zq;omega) only[go_sem,simprocAttr,↓Nat.reduceEqDiff,xx,hg]
   . simp(disch:=apply zq;omega) only[go_sem,simprocAttr,↓Nat.reduceEqDiff,xx,S20,zad,zo4]
   . exact hs2
   . rw[hst];rfl
def L21 :MC:=match m34 with| .seq _ (.seq _ (.seq (.seq _ (.block _ (.loop _ b))) _))=>b|_=>.skip
def S21 (f:Bool)(m:Sh)(l:List A3)(i:Nat):St:=⟨[.set 4 (i64 i),.set 3 (i64 (zlt l i)),.set 0 (.lst f m (ac l))],[]⟩
theorem zqy (h:1<=n){f:Bool}{m:Sh}{l:List A3}(hm:Mk l m sA)(hl:l.length<2^60):∃b:Bool,(b=true↔VA l)/\call gl tab n 34 [.lst f m (ac l)] []=some (.bool b,[],[]):=by
 obtain⟨d,rfl⟩:=wD h
 have hs:∀i,i<l.length->AOk l i->zba [.slot 0,.slot 3,.slot 4] (evC gl (call gl tab d) L21 (S21 f m l i))=some (S21 f m l (i+1)):=fun i hi hp=>by
  have hx:=zej hi
  obtain rfl:=hm.eq hi
  have hq:=z38.2 hp
  unfold badA at hq
  simp(disch:=apply zq;omega) only[go_sem,simprocAttr,↓Nat.reduceEqDiff,xx,L21,m34,S21,zad,hx,hq,z0p]
 have hf:∀i,i<l.length->¬AOk l i->out1 2 (evC gl (call gl tab d) L21 (S21 f m l i))=some (.ret,.bool false):=fun i hi hp=>by
  have hx:=zej hi
  obtain rfl:=hm.eq hi
  have hq:=z9r.2 hp
  unfold badA at hq
  simp(disch:=apply zq;omega) only[go_sem,simprocAttr,↓Nat.reduceEqDiff,xx,L21,m34,S21,zad,hx,hq]
 rw[zaf (fd:=fd34) rfl]
 rcases first_fail (AOk l) l.length with ha|⟨k,hk,hb,he⟩
 . refine⟨decide (l.length<=1000),⟨fun h=>⟨of_decide_eq_true h,ha⟩,fun h=>decide_eq_true h.n⟩,?_⟩
   have hs2:=fun i hi=>hs i hi (ha i hi)
   simp only[L21,m34]at hs2
   simp(disch:=apply zq;omega) only[go_sem,simprocAttr,↓Nat.reduceEqDiff,xx,fd34,m34,zad]
   rw[zaj (S21 f m l) l.length (by unfold LF;omega)]
   . simp(disch:=apply zq;omega) only[go_sem,simprocAttr,↓Nat.reduceEqDiff,xx,S21,zad]
   . simp(disch:=apply zq;omega) only[go_sem,simprocAttr,↓Nat.reduceEqDiff,xx,S21,zad,zo4]
   . exact hs2
   . simp(disch:=apply zq;omega) only[go_sem,simprocAttr,↓Nat.reduceEqDiff,xx,S21,zad]
 . obtain⟨st,hst,hg⟩:=zcw (hf k hk he)
   have hs2:=fun i hi=>hs i (by omega) (hb i hi)
   simp only[L21,m34]at hs2 hst
   refine⟨false,⟨(fun h=>by cases h),fun h=>absurd (h.ok k hk) he⟩,?_⟩
   simp(disch:=apply zq;omega) only[go_sem,simprocAttr,↓Nat.reduceEqDiff,xx,fd34,m34,zad]
   rw[zaj (S21 f m l) k (by unfold LF;omega),hst]
   . simp(disch:=apply zq;omega) only[go_sem,simprocAttr,↓Nat.reduceEqDiff,xx,hg]
   . simp(disch:=apply zq;omega) only[go_sem,simprocAttr,↓Nat.reduceEqDiff,xx,S21,zad,zo4]
   . exact hs2
   . rw[hst];rfl
def sumU (l:List A3):Nat->Int
 | 0=>0
 | i+1=>sumU l i+(aat l i).u
theorem zdd {l:List A3}(hv:VA l):∀{i:Nat},i<=l.length->0<=sumU l i/\sumU l i<=(i:Int)*1099511627776
 | 0,_=>by simp[sumU]
 | i+1,hi=>by
   have h1:=zdd hv (show i<=l.length by omega)
   have h3:=(hv.ok i (by omega)).u
   rw[sumU];omega
def L27 :MC:=match m52 with| .seq _ (.seq _ (.seq (.seq _ (.block _ (.loop _ b))) _))=>b|_=>.skip
def S27 (f:Bool)(m:Sh)(l:List A3)(i:Nat):St:=⟨[.set 8 (i64 i),.set 7 (i64 l.length),.set 6 (.lst f m (ac l)),.set 3 (i64 (sumU l i))],[]⟩
theorem zom (h:1<=n){f:Bool}{m:Sh}{l:List A3}(hm:Mk l m sA)(hv:VA l):call gl tab n 52 [.lst f m (ac l)] []=some (i64 (sumU l l.length),[],[]):=by
 obtain⟨d,rfl⟩:=wD h
 have hn:=hv.n
 have hs:∀i,i<l.length->zba [.slot 3,.slot 6,.slot 7,.slot 8] (evC gl (call gl tab d) L27 (S27 f m l i))=some (S27 f m l (i+1)):=fun i hi=>by
  have hx:=zej hi
  obtain rfl:=hm.eq hi
  have h1:=zdd hv (show i<=l.length by omega)
  have h2:=(hv.ok i hi).u
  simp(disch:=apply zq;omega) only[go_sem,simprocAttr,↓Nat.reduceEqDiff,xx,L27,m52,S27,zad,hx,sumU]
 simp only[L27,m52]at hs
 rw[zaf (fd:=fd52) rfl]
 simp(disch:=apply zq;omega) only[go_sem,simprocAttr,↓Nat.reduceEqDiff,xx,fd52,m52,zad]
 rw[zaj (S27 f m l) l.length (by unfold LF;omega)]
 . simp(disch:=apply zq;omega) only[go_sem,simprocAttr,↓Nat.reduceEqDiff,xx,S27,zad]
 . simp(disch:=apply zq;omega) only[go_sem,simprocAttr,↓Nat.reduceEqDiff,xx,S27,zad,sumU]
 . exact hs
 . simp(disch:=apply zq;omega) only[go_sem,simprocAttr,↓Nat.reduceEqDiff,xx,S27,zad]
def L28 :MC:=match m38 with| .seq _ (.seq _ (.seq (.seq _ (.block _ (.loop _ b))) _))=>b|_=>.skip
def S28 (f:Bool)(m:Sh)(l:List A3)(i:Nat):St:=⟨[.set 4 (i64 i),.set 3 (i64 (sumU l i)),.set 0 (.lst f m (ac l))],[]⟩
theorem zz8 (h:1<=n){f:Bool}{m:Sh}{l:List A3}(hm:Mk l m sA)(hv:VA l):call gl tab n 38 [.lst f m (ac l)] []=some (i64 (sumU l l.length),[],[]):=by
 obtain⟨d,rfl⟩:=wD h
 have hn:=hv.n
 have hs:∀i,i<l.length->zba [.slot 0,.slot 3,.slot 4] (evC gl (call gl tab d) L28 (S28 f m l i))=some (S28 f m l (i+1)):=fun i hi=>by
  have hx:=zej hi
  obtain rfl:=hm.eq hi
  have h1:=zdd hv (show i<=l.length by omega)
  have h2:=(hv.ok i hi).u
  simp(disch:=apply zq;omega) only[go_sem,simprocAttr,↓Nat.reduceEqDiff,xx,L28,m38,S28,zad,hx,sumU]
 simp only[L28,m38]at hs
 rw[zaf (fd:=fd38) rfl]
 simp(disch:=apply zq;omega) only[go_sem,simprocAttr,↓Nat.reduceEqDiff,xx,fd38,m38,zad]
 rw[zaj (S28 f m l) l.length (by unfold LF;omega)]
 . simp(disch:=apply zq;omega) only[go_sem,simprocAttr,↓Nat.reduceEqDiff,xx,S28,zad]
 . simp(disch:=apply zq;omega) only[go_sem,simprocAttr,↓Nat.reduceEqDiff,xx,S28,zad,sumU]
 . exact hs
 . simp(disch:=apply zq;omega) only[go_sem,simprocAttr,↓Nat.reduceEqDiff,xx,S28,zad]
theorem zeq {l:List A3}(hv:VA l):∀{i:Nat},i<l.length->0<(aat l i).t
 | 0,h=>(hv.ok 0 h).t
 | i+1,h=>by
   have h1:=(hv.ok (i+1) h).t
   have h2:=zeq hv (show i<l.length by omega)
   rw[zlt]at h1;omega
theorem zik {l:List A3}(hv:VA l){i:Nat}:∀{j:Nat},i<j->j<l.length->(aat l i).t<(aat l j).t
 | j+1,hij,hj=>by
   have h1:=(hv.ok (j+1) hj).t
   rw[zlt]at h1
   by_cases h:i=j
   . subst h;exact h1
   . have:=zik hv (show i<j by omega) (by omega);omega
structure Pl (l:List A3)(q:Int)(k:Nat):Prop where
 le:k<=l.length
 lo:∀j,j<k->(aat l j).t<q
 hi:∀j,k<=j->j<l.length->q<=(aat l j).t
def cmpA (t q:Int):Int:=if t<q then -1 else if 1<IntKind.wrap .i64 (t-q)then 1 else IntKind.wrap .i64 (t-q)
theorem qd3 (h:1<=n)(t w u q:Int):call gl tab n 86 [.agg [i64 t,i64 w,i64 u],i64 q] []=some (i64 (cmpA t q),[],[]):=by
 obtain⟨d,rfl⟩:=wD h
 rw[zaf (fd:=fd86) rfl]
 by_cases h1:t<q
 . simp(disch:=apply zq;omega) only[go_sem,simprocAttr,↓Nat.reduceEqDiff,xx,fd86,m86,cmpA,h1]
 . have h2:¬t<q:=h1
   simp(disch:=((fail_if_success (intro _));omega)) only[go_sem,simprocAttr,↓reduceIte,fd86,m86,cmpA,h2,zi7,zo9,qgt,decide_false]
theorem zpx {t q:Int}(ht:0<t/\t<=9223372036854775807)(hq:0<q/\q<=9223372036854775807):(cmpA t q<0↔t<q)/\(cmpA t q=0↔t=q):=by
 unfold cmpA
 rw[w64 (by omega)]
 split
 . omega
 . split<;>omega
theorem z83 (i j:Nat)(h:i+j<2^62):((BitVec.ofInt 64 ((i:Int)+(j:Int)))>>>(1:Nat)).toInt=(((i+j)/2:Nat):Int):=by
 have e:BitVec.ofInt 64 ((i:Int)+(j:Int))=BitVec.ofNat 64 (i+j):=by
  rw[show((i:Int)+(j:Int))=((i+j:Nat):Int) by omega,BitVec.ofInt_natCast]
 rw[e,BitVec.toInt_eq_toNat_of_lt]
 . rw[wH,wJ,wF (by omega),wE]
 . rw[wH,wJ,wF (by omega),wE];omega
def L46 :MC:=match m85 with| .seq _ (.seq _ (.seq _ (.seq (.block _ (.loop _ b)) _)))=>b|_=>.skip
def S46 (f:Bool)(m:Sh)(l:List A3)(q:Int)(a:Nat×Nat):St :=
 ⟨[.set 10 (i64 a.2),.set 9 (i64 a.1),.set 8 (i64 l.length),.set 2 (.fn 86 []),.set 1 (i64 q),.set 0 (.lst f m (ac l))],[]⟩
def nxtA (l:List A3)(q:Int)(a:Nat×Nat):Nat×Nat:=if cmpA (aat l ((a.1+a.2)/2)).t q<0 then((a.1+a.2)/2+1,a.2)else(a.1,(a.1+a.2)/2)
def has (l:List A3)(q:Int):Prop:=∃j,j<l.length/\(aat l j).t=q
set_option maxHeartbeats 800000 in
theorem zz1 (h:2<=n){f:Bool}{m:Sh}{l:List A3}(hm:Mk l m sA)(hv:VA l)(ht:∀i,i<l.length->(aat l i).t<=9223372036854775807){q:Int}(hq:-9223372036854775808<=q/\q<=9223372036854775807) :
  ∃k:Nat,k<=l.length/\(0<q->Pl l q k)/\∃b:Bool,(b=true↔has l q)/\call gl tab n 85 [.lst f m (ac l),i64 q,.fn 86 []] []=some (.tup [i64 k,.bool b],[],[]):=by
 obtain⟨d,rfl⟩:=wD h
 have hn:=hv.n
 have c47:=@qd3 gl (d+1) (by omega)
 obtain⟨⟨k,k'⟩,⟨i1,i2,i3⟩,hgo,hit⟩:=zi3 (f:=evC gl (call gl tab (d+1)) L46) (ks:=[.slot 0,.slot 1,.slot 2,.slot 8,.slot 9,.slot 10]) (S46 f m l q)
  (fun a=>a.1<=a.2/\a.2<=l.length/\(0<q->(∀t,t<a.1->(aat l t).t<q)/\∀t,a.2<=t->t<l.length->q<=(aat l t).t)) (fun a=>a.2-a.1)
  (nxtA l q) (fun a=>decide (a.1<a.2)) (a0:=(0,l.length)) (by unfold LF;simp;omega)
  ⟨Nat.zero_le _,wG _,fun _=>⟨fun t ht=>absurd ht (Nat.not_lt_zero _),fun t h1 h2=>absurd h2 (by simp at h1;omega)⟩⟩
  (fun a ⟨h1,h2,h3⟩ hg=>by
    obtain⟨i,j⟩:=a
    simp only[decide_eq_true_eq]at hg h1 h2 h3 ⊢
    have hmid:=z83 i j (by omega)
    have hml:(i+j)/2<l.length:=by omega
    have hx:=zej hml
    have hm2:=hm.eq hml
    have hpos:=zeq hv hml
    have hmx:=ht _ hml
    by_cases hc:cmpA (aat l ((i+j)/2)).t q<0
    . have e:nxtA l q (i,j)=((i+j)/2+1,j):=if_pos hc
      rw[e]
      refine⟨?_,⟨by simp only;omega,h2,fun h0=>⟨fun t ht'=> ?_,(h3 h0).2⟩⟩,by simp only;omega⟩
      . have c:=c47 (aat l ((i+j)/2)).t (aat l ((i+j)/2)).w (aat l ((i+j)/2)).u q
        generalize (i+j)/2=m' at *
        simp(disch:=apply zq;omega) only[go_sem,simprocAttr,↓Nat.reduceEqDiff,xx,L46,m85,S46,hmid,hx,hm2,zad,c]
      . have hlt:=(zpx (show 0<(aat l ((i+j)/2)).t/\_ from⟨hpos,hmx⟩) ⟨h0,hq.2⟩).1.1 hc
        simp only at ht'
        by_cases h5:t=(i+j)/2
        . rw[h5];exact hlt
        . have:=zik hv (show t<(i+j)/2 by omega) hml;omega
    . have e:nxtA l q (i,j)=(i,(i+j)/2):=if_neg hc
      rw[e]
      refine⟨?_,⟨by simp only;omega,by simp only;omega,fun h0=>⟨(h3 h0).1,fun t ht' h6=> ?_⟩⟩,by simp only;omega⟩
      . have c:=c47 (aat l ((i+j)/2)).t (aat l ((i+j)/2)).w (aat l ((i+j)/2)).u q
        generalize (i+j)/2=m' at *
        simp(disch:=apply zq;omega) only[go_sem,simprocAttr,↓Nat.reduceEqDiff,xx,L46,m85,S46,hmid,hx,hm2,zad,c]
      . have hge:¬(aat l ((i+j)/2)).t<q:=fun h=>hc ((zpx (show 0<(aat l ((i+j)/2)).t/\_ from⟨hpos,hmx⟩) ⟨h0,hq.2⟩).1.2 h)
        simp only at ht'
        by_cases h5:t=(i+j)/2
        . rw[h5];omega
        . have:=zik hv (show(i+j)/2<t by omega) h6;omega)
  (fun a ⟨h1,h2,h3⟩ hg=>by
    simp only[decide_eq_false_iff_not]at hg
    simp(disch:=apply zq;omega) only[go_sem,simprocAttr,↓Nat.reduceEqDiff,xx,L46,m85,S46,zad])
 simp only[decide_eq_false_iff_not]at hgo i1 i2 i3
 obtain rfl:k=k':=by omega
 simp only[L46,m85]at hit
 refine⟨k,i2,fun h0=>⟨i2,(i3 h0).1,(i3 h0).2⟩,?_⟩
 by_cases hkl:k<l.length
 . have hx:=zej hkl
   have hm2:=hm.eq hkl
   have hpos:=zeq hv hkl
   have hmx:=ht _ hkl
   have c:=c47 (aat l k).t (aat l k).w (aat l k).u q
   refine⟨cmpA (aat l k).t q==0,?_,?_⟩
   . rw[beq_iff_eq]
     by_cases h0:0<q
     . rw[(zpx ⟨hpos,hmx⟩ ⟨h0,hq.2⟩).2]
       refine⟨fun h=>⟨k,hkl,h⟩,fun⟨j,hj,hj2⟩=> ?_⟩
       have a1:=(i3 h0).1;have a2:=(i3 h0).2
       rcases Nat.lt_trichotomy j k with h3|h3|h3
       . have:=a1 j h3;omega
       . rw[<-h3];exact hj2
       . have:=zik hv h3 hj;have:=a2 k (wG _) hkl;omega
     . refine⟨fun h=> ?_,fun⟨j,hj,hj2⟩=> ?_⟩
       . exfalso
         unfold cmpA at h
         rw[if_neg (by omega)]at h
         split at h
         . omega
         . rename_i h7
           have h8:IntKind.wrap .i64 ((aat l k).t-q)=Int.bmod ((aat l k).t-q) (2^64):=by rw[zhz,BitVec.toInt_ofInt]
           rw[h8]at h
           have h9:=Int.bmod_def ((aat l k).t-q) (2^64)
           rw[h9]at h
           split at h<;>omega
       . have:=zeq hv hj;omega
   . rw[zaf (fd:=fd85) rfl]
     simp(disch:=apply zq;omega) only[go_sem,simprocAttr,↓Nat.reduceEqDiff,xx,fd85,m85,zad]
     rw[hit _ (by simp(disch:=apply zq;omega) only[go_sem,simprocAttr,↓Nat.reduceEqDiff,xx,S46])]
     simp(disch:=apply zq;omega) only[go_sem,simprocAttr,↓Nat.reduceEqDiff,xx,S46,zad,hx,hm2,c]
 . refine⟨false,⟨(fun h=>by cases h),fun⟨j,hj,hj2⟩=> ?_⟩,?_⟩
   . exfalso
     have:=zeq hv hj
     have:=(i3 (by omega)).1 j (by omega)
     omega
   . rw[zaf (fd:=fd85) rfl]
     simp(disch:=apply zq;omega) only[go_sem,simprocAttr,↓Nat.reduceEqDiff,xx,fd85,m85,zad]
     rw[hit _ (by simp(disch:=apply zq;omega) only[go_sem,simprocAttr,↓Nat.reduceEqDiff,xx,S46])]
     simp(disch:=apply zq;omega) only[go_sem,simprocAttr,↓Nat.reduceEqDiff,xx,S46,zad]
end Go.Proofs.S97.Q
