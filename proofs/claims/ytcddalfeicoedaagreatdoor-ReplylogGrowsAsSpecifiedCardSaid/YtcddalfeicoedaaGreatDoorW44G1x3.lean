/-
  Chapter 4: keys; what is valid; what counts. No condition.
-/
import Derived.Test.YtcddalfeicoedaaGreatDoorW44
import Derived.Test.YtcddalfeicoedaaGreatDoorEvY
set_option linter.all false
open Nat renaming exists_eq_add_of_le'->wA,shiftRight_eq_div_pow->wB,lt_trichotomy->wC,mod_eq_of_lt->wD,le_refl->wE
open BitVec renaming toNat_ushiftRight->wF,toNat_ofNat->wG
namespace Go.Proofs.S44
open Go Go.Ev Go.Proofs
variable {gl :Gl} {n:Nat}
abbrev i64 (n:Int):AV:=.int .i64 n
structure Ky where
 p:Int
 s:Int
 k:List UInt8
 f:Int
 t:Int
abbrev ky (x:Ky):AV:=.agg [i64 x.p,i64 x.s,.str x.k,i64 x.f,i64 x.t]
def ks (l:List Ky):List AV:=l.map fun x=>.agg [i64 x.p,i64 x.s,.str x.k,i64 x.f,i64 x.t]
def yat (l:List Ky)(i:Nat):Ky:=l.getD i ⟨0,0,[],0,0⟩
abbrev sY :Sh:=.st [.sc,.sc,.sc,.sc,.sc]
theorem zd2 (l:List Ky):(ks l).length=l.length:=by simp[ks]
theorem qbc {l:List Ky}{i:Nat}(h:i<l.length):(ks l)[i]? =some (.agg [i64 (yat l i).p,i64 (yat l i).s,.str (yat l i).k,i64 (yat l i).f,i64 (yat l i).t]):=by simp[ks,yat,h]
def Mk (l:List Ky)(m:Sh):Prop:=l=[]\/m=sY
theorem Mk.eq {l:List Ky}{m:Sh}(h:Mk l m){i:Nat}(hi:i<l.length):m=sY:=h.resolve_left (by rintro rfl;simp at hi)
structure VK (x:Ky):Prop where
 p:1<=x.p/\x.p<=1073741824
 s:1<=x.s/\x.s<=1073741824
 k:1<=x.k.length/\x.k.length<=64
 f:0<=x.f/\x.f<x.t
 t:x.t<=1099511627776
instance (x :Ky):Decidable (VK x) :=
 decidable_of_iff ((1<=x.p/\x.p<=1073741824)/\(1<=x.s/\x.s<=1073741824)/\(1<=x.k.length/\x.k.length<=64)/\(0<=x.f/\x.f<x.t)/\x.t<=1099511627776)
  ⟨fun⟨a,b,c,d,e⟩=>⟨a,b,c,d,e⟩,fun⟨a,b,c,d,e⟩=>⟨a,b,c,d,e⟩⟩
theorem qew (x y:Int):∃m,zm3 z0g (i64 x) [i64 y]=some (i64 m)/\m<=x/\m<=y/\(m=x\/m=y):=by
 refine⟨if y<x then y else x,by simp[zm3,z0g],?_⟩
 by_cases h:y<x
 . rw[if_pos h];omega
 . rw[if_neg h];omega
theorem qey (x y:Int):∃m,zm3 z0i (i64 x) [i64 y]=some (i64 m)/\x<=m/\y<=m/\(m=x\/m=y):=by
 refine⟨if y>x then y else x,by simp[zm3,z0i],?_⟩
 by_cases h:y>x
 . rw[if_pos h];omega
 . rw[if_neg h];omega
set_option maxHeartbeats 1000000 in
theorem valid_at (h:1<=n)(x:Ky)(hk:x.k.length<=9223372036854775807):call gl tab n 58 [ky x] []=some (.bool (decide (VK x)),[],[]):=by
 obtain⟨d,rfl⟩:=wA h
 obtain⟨mn,hmn,a1,a2,a3⟩:=qew x.p x.s
 obtain⟨mx,hmx,b1,b2,b3⟩:=qey x.p x.s
 rw[zad (fd:=fd58) rfl]
 by_cases h1:1<=x.p
 case neg=>rw[decide_eq_false fun v=>h1 v.p.1];simp(disch:=apply zq;omega) only[go_sem,simprocAttr,↓Nat.reduceEqDiff,xx,fd58,m58,hmn,hmx]
 by_cases h2:1<=x.s
 case neg=>rw[decide_eq_false fun v=>h2 v.s.1];simp(disch:=apply zq;omega) only[go_sem,simprocAttr,↓Nat.reduceEqDiff,xx,fd58,m58,hmn,hmx]
 by_cases h3:x.p<=1073741824
 case neg=>rw[decide_eq_false fun v=>h3 v.p.2];simp(disch:=apply zq;omega) only[go_sem,simprocAttr,↓Nat.reduceEqDiff,xx,fd58,m58,hmn,hmx]
 by_cases h4:x.s<=1073741824
 case neg=>rw[decide_eq_false fun v=>h4 v.s.2];simp(disch:=apply zq;omega) only[go_sem,simprocAttr,↓Nat.reduceEqDiff,xx,fd58,m58,hmn,hmx]
 by_cases h5:1<=x.k.length
 case neg=>rw[decide_eq_false fun v=>h5 v.k.1];simp(disch:=apply zq;omega) only[go_sem,simprocAttr,↓Nat.reduceEqDiff,xx,fd58,m58,hmn,hmx]
 by_cases h6:x.k.length<=64
 case neg=>rw[decide_eq_false fun v=>h6 v.k.2];simp(disch:=apply zq;omega) only[go_sem,simprocAttr,↓Nat.reduceEqDiff,xx,fd58,m58,hmn,hmx]
 by_cases h7:0<=x.f
 case neg=>rw[decide_eq_false fun v=>h7 v.f.1];simp(disch:=apply zq;omega) only[go_sem,simprocAttr,↓Nat.reduceEqDiff,xx,fd58,m58,hmn,hmx]
 by_cases h8:x.f<x.t
 case neg=>rw[decide_eq_false fun v=>h8 v.f.2];simp(disch:=apply zq;omega) only[go_sem,simprocAttr,↓Nat.reduceEqDiff,xx,fd58,m58,hmn,hmx]
 by_cases h9:x.t<=1099511627776
 case neg=>rw[decide_eq_false fun v=>h9 v.t];simp(disch:=apply zq;omega) only[go_sem,simprocAttr,↓Nat.reduceEqDiff,xx,fd58,m58,hmn,hmx]
 rw[decide_eq_true ⟨⟨h1,h3⟩,⟨h2,h4⟩,⟨h5,h6⟩,⟨h7,h8⟩,h9⟩];simp(disch:=apply zq;omega) only[go_sem,simprocAttr,↓Nat.reduceEqDiff,xx,fd58,m58,hmn,hmx]
set_option maxHeartbeats 1000000 in
theorem rvalid_at (h:1<=n)(x:Ky)(hk:x.k.length<=9223372036854775807):call gl tab n 63 [ky x] []=some (.bool (decide (VK x)),[],[]):=by
 obtain⟨d,rfl⟩:=wA h
 rw[zad (fd:=fd63) rfl]
 by_cases h1:1<=x.p
 case neg=>rw[decide_eq_false fun v=>h1 v.p.1];simp(disch:=apply zq;omega) only[go_sem,simprocAttr,↓Nat.reduceEqDiff,xx,fd63,m63]
 by_cases h3:x.p<=1073741824
 case neg=>rw[decide_eq_false fun v=>h3 v.p.2];simp(disch:=apply zq;omega) only[go_sem,simprocAttr,↓Nat.reduceEqDiff,xx,fd63,m63]
 by_cases h2:1<=x.s
 case neg=>rw[decide_eq_false fun v=>h2 v.s.1];simp(disch:=apply zq;omega) only[go_sem,simprocAttr,↓Nat.reduceEqDiff,xx,fd63,m63]
 by_cases h4:x.s<=1073741824
 case neg=>rw[decide_eq_false fun v=>h4 v.s.2];simp(disch:=apply zq;omega) only[go_sem,simprocAttr,↓Nat.reduceEqDiff,xx,fd63,m63]
 by_cases h5:1<=x.k.length
 case neg=>rw[decide_eq_false fun v=>h5 v.k.1];simp(disch:=apply zq;omega) only[go_sem,simprocAttr,↓Nat.reduceEqDiff,xx,fd63,m63]
 by_cases h6:x.k.length<=64
 case neg=>rw[decide_eq_false fun v=>h6 v.k.2];simp(disch:=apply zq;omega) only[go_sem,simprocAttr,↓Nat.reduceEqDiff,xx,fd63,m63]
 by_cases h7:0<=x.f
 case neg=>rw[decide_eq_false fun v=>h7 v.f.1];simp(disch:=apply zq;omega) only[go_sem,simprocAttr,↓Nat.reduceEqDiff,xx,fd63,m63]
 by_cases h8:x.f<x.t
 case neg=>rw[decide_eq_false fun v=>h8 v.f.2];simp(disch:=apply zq;omega) only[go_sem,simprocAttr,↓Nat.reduceEqDiff,xx,fd63,m63]
 by_cases h9:x.t<=1099511627776
 case neg=>rw[decide_eq_false fun v=>h9 v.t];simp(disch:=apply zq;omega) only[go_sem,simprocAttr,↓Nat.reduceEqDiff,xx,fd63,m63]
 rw[decide_eq_true ⟨⟨h1,h3⟩,⟨h2,h4⟩,⟨h5,h6⟩,⟨h7,h8⟩,h9⟩];simp(disch:=apply zq;omega) only[go_sem,simprocAttr,↓Nat.reduceEqDiff,xx,fd63,m63]
def bef (x y:Ky):Bool:=decide (x.p<y.p\/x.p=y.p/\x.s<y.s)
def cnt (x:Ky)(lo hi:Int):Bool:=decide (0<=lo/\lo<=hi/\hi<=1099511627776/\x.f<=lo/\hi<x.t)
theorem z2n (h:1<=n)(x:Ky)(lo hi:Int):call gl tab n 152 [ky x,.agg [i64 lo,i64 hi]] []=some (.bool (cnt x lo hi),[],[]):=by
 obtain⟨d,rfl⟩:=wA h
 rw[zad (fd:=zpu) rfl]
 unfold cnt
 by_cases h1:0<=lo
 case neg=>rw[decide_eq_false (by omega)];simp(disch:=apply zq;omega) only[go_sem,simprocAttr,↓Nat.reduceEqDiff,xx,zpu,m152]
 by_cases h2:lo<=hi
 case neg=>rw[decide_eq_false (by omega)];simp(disch:=apply zq;omega) only[go_sem,simprocAttr,↓Nat.reduceEqDiff,xx,zpu,m152]
 by_cases h3:hi<=1099511627776
 case neg=>rw[decide_eq_false (by omega)];simp(disch:=apply zq;omega) only[go_sem,simprocAttr,↓Nat.reduceEqDiff,xx,zpu,m152]
 by_cases h4:x.f<=lo
 case neg=>rw[decide_eq_false (by omega)];simp(disch:=apply zq;omega) only[go_sem,simprocAttr,↓Nat.reduceEqDiff,xx,zpu,m152]
 by_cases h5:hi<x.t
 case neg=>rw[decide_eq_false (by omega)];simp(disch:=apply zq;omega) only[go_sem,simprocAttr,↓Nat.reduceEqDiff,xx,zpu,m152]
 rw[decide_eq_true (by omega)];simp(disch:=apply zq;omega) only[go_sem,simprocAttr,↓Nat.reduceEqDiff,xx,zpu,m152]
end Go.Proofs.S44
namespace Go.Proofs.S44
open Go Go.Ev Go.Proofs
variable {gl :Gl} {n:Nat}
theorem zbv (p:Nat->Prop)(N:Nat):(∀i,i<N->p i)\/∃k,k<N/\(∀j,j<k->p j)/\¬p k:=by
 classical
 by_cases h:∀i,i<N->p i
 . exact .inl h
 . obtain⟨h1,h2,h3⟩:=zix p N
   refine .inr ⟨fstN p N,?_⟩
   rcases Nat.lt_or_ge (fstN p N) N with h4|h4
   . exact⟨h4,h2,h3 h4⟩
   . exact absurd (fun i hi=>h2 i (by omega)) h
structure ROk (l:List Ky)(i:Nat):Prop where
 v:VK (yat l i)
 b:0<i->bef (yat l (i-1)) (yat l i)=true
structure VR (l:List Ky):Prop where
 n:l.length<=1000
 ok:∀i,i<l.length->ROk l i
def Sm (l:List Ky):Prop:=l.length<2^60/\∀i,i<l.length->(yat l i).k.length<=9223372036854775807
def lo (x:Ky)(p s:Int):Prop:=x.p<p\/x.p=p/\x.s<s
theorem VR.lt {l:List Ky}(hv:VR l){i:Nat}:∀{j:Nat},i<j->j<l.length->lo (yat l i) (yat l j).p (yat l j).s
 | j+1,hij,hj=>by
   have h1:=(hv.ok (j+1) hj).b (by omega)
   simp only[bef,decide_eq_true_eq,Nat.add_sub_cancel]at h1
   by_cases h:i=j
   . subst h;exact h1
   . have h2:=hv.lt (show i<j by omega) (by omega)
     unfold lo at *;omega
structure Pl (l:List Ky)(p s:Int)(k:Nat):Prop where
 le:k<=l.length
 lo:∀j,j<k->lo (yat l j) p s
 hi:∀j,k<=j->j<l.length->¬S44.lo (yat l j) p s
def cv (x:Ky)(p s:Int):Int:=if x.p=p then IntKind.wrap .i64 (x.s-s)else IntKind.wrap .i64 (x.p-p)
theorem z7r {a:Int}(h1:-18446744073709551616<a)(h2:a<18446744073709551616)(h:IntKind.wrap .i64 a=0):a=0:=by
 simp only[IntKind.wrap,IntKind.bits,IntKind.signed,Bool.true_and]at h
 simp only[Nat.add_one_sub_one,Int.reducePow]at h
 split at h<;>simp_all<;>omega
def R64 (x:Int):Prop:=-9223372036854775808<=x/\x<=9223372036854775807
theorem cv_0 {x:Ky}(hx:VK x){p s:Int}(hp:R64 p)(hs:R64 s):cv x p s=0↔x.p=p/\x.s=s:=by
 have h1:=hx.p;have h2:=hx.s
 unfold R64 at *
 unfold cv
 by_cases h:x.p=p
 . rw[if_pos h]
   refine⟨fun e=>⟨h,?_⟩,fun⟨_,e⟩=> ?_⟩
   . have:=z7r (by omega) (by omega) e;omega
   . rw[zax (by omega) (by omega)];omega
 . rw[if_neg h]
   refine⟨fun e=> ?_,fun⟨e,_⟩=>absurd e h⟩
   have:=z7r (by omega) (by omega) e;omega
theorem qgj {x:Ky}(hx:VK x){p s:Int}(hp:-4611686018427387904<=p/\p<=4611686018427387904)(hs:-4611686018427387904<=s/\s<=4611686018427387904):cv x p s<0↔lo x p s:=by
 have h1:=hx.p;have h2:=hx.s
 unfold cv lo
 by_cases h:x.p=p
 . rw[if_pos h,zax (by omega) (by omega)];omega
 . rw[if_neg h,zax (by omega) (by omega)];omega
theorem qgq (h:1<=n)(x:Ky)(p s:Int):call gl tab n 176 [ky x,i64 p,.ptr 100000 []] [(100000,.fix .sc (i64 s))]=some (i64 (cv x p s),[(100000,.fix .sc (i64 s))],[]):=by
 obtain⟨d,rfl⟩:=wA h
 rw[za7 (fd:=z12) rfl]
 unfold cv
 by_cases h1:x.p=p
 . have h2:(x.p != p)=false:=by rw[h1];exact bne_self_eq_false p
   rw[if_pos h1]
   simp(disch:=apply zq;omega) only[go_sem,simprocAttr,↓Nat.reduceEqDiff,xx,z12,m176,h2]
 . have h2:(x.p != p)=true:=by simpa using h1
   rw[if_neg h1]
   simp(disch:=apply zq;omega) only[go_sem,simprocAttr,↓Nat.reduceEqDiff,xx,z12,m176,h2]
end Go.Proofs.S44
namespace Go.Proofs.S44
open Go Go.Ev Go.Proofs
variable {gl :Gl} {n:Nat}
theorem qex (i j:Nat)(h:i+j<2^62):((BitVec.ofInt 64 ((i:Int)+(j:Int)))>>>(1:Nat)).toInt=(((i+j)/2:Nat):Int):=by
 have e:BitVec.ofInt 64 ((i:Int)+(j:Int))=BitVec.ofNat 64 (i+j):=by
  rw[show((i:Int)+(j:Int))=((i+j:Nat):Int) by omega,BitVec.ofInt_natCast]
 rw[e,BitVec.toInt_eq_toNat_of_lt]
 . rw[wF,wG,wD (by omega),wB]
 . rw[wF,wG,wD (by omega),wB];omega
def L80 :MC:=match m175 with| .seq _ (.seq _ (.seq _ (.seq (.block _ (.loop _ b)) _)))=>b|_=>.skip
def S80 (f:Bool)(m:Sh)(l:List Ky)(p s:Int)(a:Nat×Nat):St :=
 ⟨[.set 10 (i64 a.2),.set 9 (i64 a.1),.set 8 (i64 l.length),.set 2 (.fn 176 [.ptr 100000 []]),.set 1 (i64 p),.set 0 (.lst f m (ks l))],[(100000,.fix .sc (i64 s))]⟩
def nxtK (l:List Ky)(p s:Int)(a:Nat×Nat):Nat×Nat:=if cv (yat l ((a.1+a.2)/2)) p s<0 then((a.1+a.2)/2+1,a.2)else(a.1,(a.1+a.2)/2)
def Inr (p s:Int):Prop:=(-4611686018427387904<=p/\p<=4611686018427387904)/\(-4611686018427387904<=s/\s<=4611686018427387904)
set_option maxHeartbeats 1000000 in
theorem zzd (h:2<=n){f:Bool}{m:Sh}{l:List Ky}(hm:Mk l m)(hv:VR l)(p s:Int) :
  ∃k:Nat,k<=l.length/\(Inr p s->Pl l p s k)/\call gl tab n 175 [.lst f m (ks l),i64 p,.fn 176 [.ptr 100000 []]] [(100000,.fix .sc (i64 s))]=some (.tup [i64 k,.bool (decide (k<l.length)&&(cv (yat l k) p s==0))],[(100000,.fix .sc (i64 s))],[]):=by
 obtain⟨d,rfl⟩:=wA h
 have hn:=hv.n
 have c81:=fun i=>@qgq gl (d+1) (by omega) (yat l i) p s
 obtain⟨⟨k,k'⟩,⟨i1,i2,i3⟩,hgo,hit⟩:=zro (f:=evC gl (call gl tab (d+1)) L80) (ks:=[.slot 0,.slot 1,.slot 2,.slot 8,.slot 9,.slot 10]) (S80 f m l p s)
  (fun a=>a.1<=a.2/\a.2<=l.length/\(Inr p s->(∀t,t<a.1->lo (yat l t) p s)/\∀t,a.2<=t->t<l.length->¬lo (yat l t) p s)) (fun a=>a.2-a.1)
  (nxtK l p s) (fun a=>decide (a.1<a.2)) (a0:=(0,l.length)) (by unfold LF;simp;omega)
  ⟨Nat.zero_le _,wE _,fun _=>⟨fun t ht=>absurd ht (Nat.not_lt_zero _),fun t h1 h2=>absurd h2 (by simp at h1;omega)⟩⟩
  (fun a ⟨h1,h2,h3⟩ hg=>by
    obtain⟨i,j⟩:=a
    simp only[decide_eq_true_eq]at hg h1 h2 h3 ⊢
    have hmid:=qex i j (by omega)
    have hml:(i+j)/2<l.length:=by omega
    have hx:=qbc hml
    have hm2:=hm.eq hml
    have c:=c81 ((i+j)/2)
    have hvk:=(hv.ok _ hml).v
    by_cases hc:cv (yat l ((i+j)/2)) p s<0
    . have e:nxtK l p s (i,j)=((i+j)/2+1,j):=if_pos hc
      rw[e]
      refine⟨?_,⟨by simp only;omega,h2,fun hr=>⟨fun t ht'=> ?_,(h3 hr).2⟩⟩,by simp only;omega⟩
      . generalize (i+j)/2=m' at *
        simp(disch:=apply zq;omega) only[go_sem,simprocAttr,↓Nat.reduceEqDiff,xx,L80,m175,S80,hmid,hx,hm2,zd2,c]
      . simp only at ht'
        have hl:=(qgj hvk hr.1 hr.2).1 hc
        by_cases h5:t=(i+j)/2
        . rw[h5];exact hl
        . have:=hv.lt (show t<(i+j)/2 by omega) hml
          unfold lo at *;omega
    . have e:nxtK l p s (i,j)=(i,(i+j)/2):=if_neg hc
      rw[e]
      refine⟨?_,⟨by simp only;omega,by simp only;omega,fun hr=>⟨(h3 hr).1,fun t ht' h6=> ?_⟩⟩,by simp only;omega⟩
      . generalize (i+j)/2=m' at *
        simp(disch:=apply zq;omega) only[go_sem,simprocAttr,↓Nat.reduceEqDiff,xx,L80,m175,S80,hmid,hx,hm2,zd2,c]
      . simp only at ht'
        have hl:¬lo (yat l ((i+j)/2)) p s:=fun h=>hc ((qgj hvk hr.1 hr.2).2 h)
        by_cases h5:t=(i+j)/2
        . rw[h5];exact hl
        . have:=hv.lt (show(i+j)/2<t by omega) h6
          unfold lo at *;omega)
  (fun a ⟨h1,h2,h3⟩ hg=>by
    simp only[decide_eq_false_iff_not]at hg
    simp(disch:=apply zq;omega) only[go_sem,simprocAttr,↓Nat.reduceEqDiff,xx,L80,m175,S80,zd2])
 simp only[decide_eq_false_iff_not]at hgo i1 i2 i3
 obtain rfl:k=k':=by omega
 simp only[L80,m175]at hit
 refine⟨k,i2,fun hr=>⟨i2,(i3 hr).1,(i3 hr).2⟩,?_⟩
 by_cases hkl:k<l.length
 . have hx:=qbc hkl
   have hm2:=hm.eq hkl
   have c:=c81 k
   rw[decide_eq_true hkl,Bool.true_and]
   rw[za7 (fd:=zxw) rfl]
   simp(disch:=apply zq;omega) only[go_sem,simprocAttr,↓Nat.reduceEqDiff,xx,zxw,m175,zd2]
   rw[hit _ (by simp(disch:=apply zq;omega) only[go_sem,simprocAttr,↓Nat.reduceEqDiff,xx,S80])]
   simp(disch:=apply zq;omega) only[go_sem,simprocAttr,↓Nat.reduceEqDiff,xx,S80,zd2,hx,hm2,c]
 . rw[decide_eq_false hkl,Bool.false_and]
   rw[za7 (fd:=zxw) rfl]
   simp(disch:=apply zq;omega) only[go_sem,simprocAttr,↓Nat.reduceEqDiff,xx,zxw,m175,zd2]
   rw[hit _ (by simp(disch:=apply zq;omega) only[go_sem,simprocAttr,↓Nat.reduceEqDiff,xx,S80])]
   simp(disch:=apply zq;omega) only[go_sem,simprocAttr,↓Nat.reduceEqDiff,xx,S80,zd2]
def Is (l:List Ky)(p s:Int)(k:Nat):Prop:=k<l.length/\(yat l k).p=p/\(yat l k).s=s
theorem z8c {l:List Ky}(hv:VR l){p s:Int}{i j:Nat}(h1:Is l p s i)(h2:Is l p s j):i=j:=by
 obtain⟨a1,a2,a3⟩:=h1
 obtain⟨b1,b2,b3⟩:=h2
 rcases wC i j with h|h|h
 . have:=hv.lt h b1;unfold lo at this;omega
 . exact h
 . have:=hv.lt h a1;unfold lo at this;omega
theorem zut (h:3<=n){f:Bool}{m:Sh}{l:List Ky}(hm:Mk l m)(hv:VR l){p s:Int}(hp:R64 p)(hs:R64 s) :
  ∃(k:Nat) (b:Bool),k<=l.length/\(Inr p s->Pl l p s k)/\(b=true↔Is l p s k)/\(b=false->∀i,¬Is l p s i)/\call gl tab n 168 [.lst f m (ks l),i64 p,i64 s] []=some (.tup [i64 k,.bool b],[],[]):=by
 obtain⟨d,rfl⟩:=wA h
 obtain⟨k,hk,hpl,c80⟩:=@zzd gl (d+2) (by omega) f m l hm hv p s
 have hb:(decide (k<l.length)&&(cv (yat l k) p s==0))=true↔Is l p s k:=by
  rw[Bool.and_eq_true,decide_eq_true_eq,beq_iff_eq]
  exact⟨fun⟨h1,h2⟩=>⟨h1,(cv_0 (hv.ok k h1).v hp hs).1 h2⟩,fun⟨h1,h2⟩=>⟨h1,(cv_0 (hv.ok k h1).v hp hs).2 h2⟩⟩
 refine⟨k,_,hk,hpl,hb,fun e i hi=> ?_,?_⟩
 . obtain⟨h1,h2,h3⟩:=hi
   have v:=(hv.ok i h1).v
   have v1:=v.p;have v2:=v.s
   have hP:=hpl ⟨by omega,by omega⟩
   have hik:k=i:=by
    rcases wC i k with h|h|h
    . have:=hP.lo i h;unfold lo at this;omega
    . exact h.symm
    . exfalso
      have a1:=hv.lt h h1
      have a2:=hP.hi k (wE _) (by omega)
      rw[h2,h3]at a1;exact a2 a1
   subst hik
   rw[hb.2 ⟨h1,h2,h3⟩]at e;cases e
 . generalize (decide (k<l.length)&&(cv (yat l k) p s==0))=b at *
   rw[zad (fd:=z5z) rfl]
   simp(disch:=apply zq;omega) only[go_sem,simprocAttr,↓Nat.reduceEqDiff,xx,z5z,m168,c80]
theorem qb2 (h:4<=n){f:Bool}{m:Sh}{l:List Ky}(hm:Mk l m)(hv:VR l){p s:Int}(hp:R64 p)(hs:R64 s){k:Nat}(hk:Is l p s k) :
  call gl tab n 151 [.lst f m (ks l),i64 p,i64 s] []=some (.tup [ky (yat l k),i64 0],[],[]):=by
 obtain⟨d,rfl⟩:=wA h
 obtain⟨j,b,hj,hpl,hb,hn,c57⟩:=@zut gl (d+3) (by omega) f m l hm hv p s hp hs
 cases b with
 | false=>exact absurd hk (hn rfl k)
 | true =>
   obtain rfl:=z8c hv (hb.1 rfl) hk
   have hx:=qbc hk.1
   obtain rfl:=hm.eq hk.1
   have hk1:=hk.1
   have hn:=hv.n
   rw[zad (fd:=zxx) rfl]
   simp(disch:=apply zq;omega) only[go_sem,simprocAttr,↓Nat.reduceEqDiff,xx,zxx,m151,c57,hx,zd2]
abbrev ky0 :AV:=.agg [i64 0,i64 0,.str [],i64 0,i64 0]
theorem qb1 (h:4<=n){f:Bool}{m:Sh}{l:List Ky}(hm:Mk l m)(hv:VR l){p s:Int}(hp:R64 p)(hs:R64 s)(hk:∀k,¬Is l p s k) :
  call gl tab n 151 [.lst f m (ks l),i64 p,i64 s] []=some (.tup [ky0,i64 5],[],[]):=by
 obtain⟨d,rfl⟩:=wA h
 obtain⟨j,b,hj,hpl,hb,hn,c57⟩:=@zut gl (d+3) (by omega) f m l hm hv p s hp hs
 cases b with
 | true=>exact absurd (hb.1 rfl) (hk j)
 | false =>
   rw[zad (fd:=zxx) rfl]
   simp(disch:=apply zq;omega) only[go_sem,simprocAttr,↓Nat.reduceEqDiff,xx,zxx,m151,c57]
theorem zqe {l:List Ky}{i:Nat}(h:i<l.length):yat l i=l[i]:=by simp[yat,h]
theorem R64.of {a:Int}(h:1<=a/\a<=1073741824):R64 a:=by unfold R64;omega
theorem qem (h:4<=n){f:Bool}{m:Sh}{l:List Ky}(hm:Mk l m)(hv:VR l){p s:Int}(hp:R64 p)(hs:R64 s) :
  (∃k,Is l p s k/\call gl tab n 151 [.lst f m (ks l),i64 p,i64 s] []=some (.tup [ky (yat l k),i64 0],[],[])) \/
  (∀k,¬Is l p s k)/\call gl tab n 151 [.lst f m (ks l),i64 p,i64 s] []=some (.tup [ky0,i64 5],[],[]):=by
 by_cases hk:∃k,Is l p s k
 . obtain⟨k,hk⟩:=hk
   exact .inl ⟨k,hk,qb2 h hm hv hp hs hk⟩
 . have hk:∀k,¬Is l p s k:=fun k h=>hk ⟨k,h⟩
   exact .inr ⟨hk,qb1 h hm hv hp hs hk⟩
end Go.Proofs.S44
namespace Go.Proofs.S44.H
open Go Go.Ev Go.Proofs Go.Proofs.S44
abbrev i64 (n:Int):AV:=.int .i64 n
abbrev u64 (x:BitVec 64):AV:=.int .u64 (x.toNat:Int)
abbrev u32 (x:BitVec 32):AV:=.int .u32 (x.toNat:Int)
abbrev u8 (x:BitVec 8):AV:=.int .u8 (x.toNat:Int)
def ub (b:BitVec 8):UInt8:=⟨b⟩
structure GlK (gl:Gl):Prop where
 k:gl.tbl 2=some (.ar 64 .sc,.agg kA)
structure GlR (gl:Gl):Prop where
 r:gl.tbl 3=some (.ar 64 .sc,.agg kA)
def strsAV (l:List (List UInt8)):List AV:=l.map fun x=>.str x
theorem zaa (l:List (List UInt8)):(strsAV l).length=l.length:=by simp[strsAV]
theorem zai {l:List (List UInt8)}{i:Nat}(h:i<l.length):(strsAV l)[i]? =some (.str l[i]):=by
 rw[strsAV,List.getElem?_map,List.getElem?_eq_getElem h];rfl
theorem zdx {i:Nat}(h:i<2^62):IntKind.wrap .i64 ((i:Int)+1)=((i+1:Nat):Int):=by
 rw[zax (by omega) (by omega)];rfl
theorem glK {gl:Gl}[h:Nonempty (GlK gl)]:gl.tbl 2=some (.ar 64 .sc,.agg kA):=h.elim fun h=>h.k
theorem glR {gl:Gl}[h:Nonempty (GlR gl)]:gl.tbl 3=some (.ar 64 .sc,.agg kA):=h.elim fun h=>h.r
theorem zp7 {l:List UInt8}{n:Nat}(h:l.length=n):(zac l).take n=zac l:=by rw[<-h,zkf]
theorem zhq {n:Nat}(h:n<2^36):n+1<=LIM:=by unfold LIM;omega
theorem zaf (a b:List UInt8):zac (a++b)=zac a++zac b:=by simp[zac]
theorem zjb (a b:Nat)(h:0<b):zar .rem .i64 (a:Int) (b:Int)=some (.int .i64 ((a%b:Nat):Int)):=by
 have hb:¬((b:Int)=0):=by omega
 simp only[zar,hb,if_false];rfl
theorem noImms_bytesAV :∀l:List UInt8,zd0 (zac l)=true
 | []=>rfl
 | b::l=>by
   show(zc9 (.int .u8 (b.toNat:Int))&&zd0 (zac l))=true
   rw[noImms_bytesAV l];rfl
end Go.Proofs.S44.H
