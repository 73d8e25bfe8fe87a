/-
  Chapter 4: keys; what is valid; what counts. No condition.
-/
import Derived.Test.YtcddalfeicoedaaGreatDoorW44
import Derived.Test.YtcddalfeicoedaaGreatDoorEvY
set_option linter.unusedVariables false
set_option linter.unusedSimpArgs false
set_option linter.unusedSectionVars false
namespace Go.Proofs.S44
open Go Go.Ev Go.Proofs
variable {gl :Gl} {n:Nat}
abbrev i64 (n:Int):AV:=.int .i64 n
structure Ky where
 p:Int
 s:Int
 k:List UInt8
 f:Int
 t:Int
abbrev ky (x:Ky):AV:=.agg [i64 x.p,i64 x.s,.str x.k,i64 x.f,i64 x.t]
def ks (l:List Ky):List AV:=l.map fun x=>.agg [i64 x.p,i64 x.s,.str x.k,i64 x.f,i64 x.t]
def yat (l:List Ky)(i:Nat):Ky:=l.getD i ⟨0,0,[],0,0⟩
abbrev sY :Sh:=.st [.sc,.sc,.sc,.sc,.sc]
theorem zas (l:List Ky):(ks l).length=l.length:=by simp[ks]
theorem ks_at {l:List Ky}{i:Nat}(h:i<l.length):(ks l)[i]? =some (.agg [i64 (yat l i).p,i64 (yat l i).s,.str (yat l i).k,i64 (yat l i).f,i64 (yat l i).t]):=by simp[ks,yat,h]
def Mk (l:List Ky)(m:Sh):Prop:=l=[]\/m=sY
theorem Mk.eq {l:List Ky}{m:Sh}(h:Mk l m){i:Nat}(hi:i<l.length):m=sY:=h.resolve_left (by rintro rfl;simp at hi)
structure VK (x:Ky):Prop where
 p:1<=x.p/\x.p<=1073741824
 s:1<=x.s/\x.s<=1073741824
 k:1<=x.k.length/\x.k.length<=64
 f:0<=x.f/\x.f<x.t
 t:x.t<=1099511627776
instance (x :Ky):Decidable (VK x) :=
 decidable_of_iff ((1<=x.p/\x.p<=1073741824)/\(1<=x.s/\x.s<=1073741824)/\(1<=x.k.length/\x.k.length<=64)/\(0<=x.f/\x.f<x.t)/\x.t<=1099511627776)
  ⟨fun⟨a,b,c,d,e⟩=>⟨a,b,c,d,e⟩,fun⟨a,b,c,d,e⟩=>⟨a,b,c,d,e⟩⟩
theorem min_ex (x y:Int):∃m,foldO minAV (i64 x) [i64 y]=some (i64 m)/\m<=x/\m<=y/\(m=x\/m=y):=by
 refine⟨if y<x then y else x,by simp[foldO,minAV],?_⟩
 by_cases h:y<x
 . rw[if_pos h];omega
 . rw[if_neg h];omega
theorem max_ex (x y:Int):∃m,foldO maxAV (i64 x) [i64 y]=some (i64 m)/\x<=m/\y<=m/\(m=x\/m=y):=by
 refine⟨if y>x then y else x,by simp[foldO,maxAV],?_⟩
 by_cases h:y>x
 . rw[if_pos h];omega
 . rw[if_neg h];omega
set_option maxHeartbeats 1000000 in
theorem valid_at (h:1<=n)(x:Ky)(hk:x.k.length<=9223372036854775807):call gl tab n 58 [ky x] []=some (.bool (decide (VK x)),[],[]):=by
 obtain⟨d,rfl⟩:=Nat.exists_eq_add_of_le' h
 obtain⟨mn,hmn,a1,a2,a3⟩:=min_ex x.p x.s
 obtain⟨mx,hmx,b1,b2,b3⟩:=max_ex x.p x.s
 rw[zad (fd:=fd58) rfl]
 by_cases h1:1<=x.p
 case neg=>rw[decide_eq_false fun v=>h1 v.p.1];simp(disch:=(fail_if_success intro _);omega) only[go_sem,simprocAttr,↓Nat.reduceEqDiff,xx,fd58,m58,hmn,hmx]
 by_cases h2:1<=x.s
 case neg=>rw[decide_eq_false fun v=>h2 v.s.1];simp(disch:=(fail_if_success intro _);omega) only[go_sem,simprocAttr,↓Nat.reduceEqDiff,xx,fd58,m58,hmn,hmx]
 by_cases h3:x.p<=1073741824
 case neg=>rw[decide_eq_false fun v=>h3 v.p.2];simp(disch:=(fail_if_success intro _);omega) only[go_sem,simprocAttr,↓Nat.reduceEqDiff,xx,fd58,m58,hmn,hmx]
 by_cases h4:x.s<=1073741824
 case neg=>rw[decide_eq_false fun v=>h4 v.s.2];simp(disch:=(fail_if_success intro _);omega) only[go_sem,simprocAttr,↓Nat.reduceEqDiff,xx,fd58,m58,hmn,hmx]
 by_cases h5:1<=x.k.length
 case neg=>rw[decide_eq_false fun v=>h5 v.k.1];simp(disch:=(fail_if_success intro _);omega) only[go_sem,simprocAttr,↓Nat.reduceEqDiff,xx,fd58,m58,hmn,hmx]
 by_cases h6:x.k.length<=64
 case neg=>rw[decide_eq_false fun v=>h6 v.k.2];simp(disch:=(fail_if_success intro _);omega) only[go_sem,simprocAttr,↓Nat.reduceEqDiff,xx,fd58,m58,hmn,hmx]
 by_cases h7:0<=x.f
 case neg=>rw[decide_eq_false fun v=>h7 v.f.1];simp(disch:=(fail_if_success intro _);omega) only[go_sem,simprocAttr,↓Nat.reduceEqDiff,xx,fd58,m58,hmn,hmx]
 by_cases h8:x.f<x.t
 case neg=>rw[decide_eq_false fun v=>h8 v.f.2];simp(disch:=(fail_if_success intro _);omega) only[go_sem,simprocAttr,↓Nat.reduceEqDiff,xx,fd58,m58,hmn,hmx]
 by_cases h9:x.t<=1099511627776
 case neg=>rw[decide_eq_false fun v=>h9 v.t];simp(disch:=(fail_if_success intro _);omega) only[go_sem,simprocAttr,↓Nat.reduceEqDiff,xx,fd58,m58,hmn,hmx]
 rw[decide_eq_true ⟨⟨h1,h3⟩,⟨h2,h4⟩,⟨h5,h6⟩,⟨h7,h8⟩,h9⟩];simp(disch:=(fail_if_success intro _);omega) only[go_sem,simprocAttr,↓Nat.reduceEqDiff,xx,fd58,m58,hmn,hmx]
set_option maxHeartbeats 1000000 in
theorem rvalid_at (h:1<=n)(x:Ky)(hk:x.k.length<=9223372036854775807):call gl tab n 63 [ky x] []=some (.bool (decide (VK x)),[],[]):=by
 obtain⟨d,rfl⟩:=Nat.exists_eq_add_of_le' h
 rw[zad (fd:=fd63) rfl]
 by_cases h1:1<=x.p
 case neg=>rw[decide_eq_false fun v=>h1 v.p.1];simp(disch:=(fail_if_success intro _);omega) only[go_sem,simprocAttr,↓Nat.reduceEqDiff,xx,fd63,m63]
 by_cases h3:x.p<=1073741824
 case neg=>rw[decide_eq_false fun v=>h3 v.p.2];simp(disch:=(fail_if_success intro _);omega) only[go_sem,simprocAttr,↓Nat.reduceEqDiff,xx,fd63,m63]
 by_cases h2:1<=x.s
 case neg=>rw[decide_eq_false fun v=>h2 v.s.1];simp(disch:=(fail_if_success intro _);omega) only[go_sem,simprocAttr,↓Nat.reduceEqDiff,xx,fd63,m63]
 by_cases h4:x.s<=1073741824
 case neg=>rw[decide_eq_false fun v=>h4 v.s.2];simp(disch:=(fail_if_success intro _);omega) only[go_sem,simprocAttr,↓Nat.reduceEqDiff,xx,fd63,m63]
 by_cases h5:1<=x.k.length
 case neg=>rw[decide_eq_false fun v=>h5 v.k.1];simp(disch:=(fail_if_success intro _);omega) only[go_sem,simprocAttr,↓Nat.reduceEqDiff,xx,fd63,m63]
 by_cases h6:x.k.length<=64
 case neg=>rw[decide_eq_false fun v=>h6 v.k.2];simp(disch:=(fail_if_success intro _);omega) only[go_sem,simprocAttr,↓Nat.reduceEqDiff,xx,fd63,m63]
 by_cases h7:0<=x.f
 case neg=>rw[decide_eq_false fun v=>h7 v.f.1];simp(disch:=(fail_if_success intro _);omega) only[go_sem,simprocAttr,↓Nat.reduceEqDiff,xx,fd63,m63]
 by_cases h8:x.f<x.t
 case neg=>rw[decide_eq_false fun v=>h8 v.f.2];simp(disch:=(fail_if_success intro _);omega) only[go_sem,simprocAttr,↓Nat.reduceEqDiff,xx,fd63,m63]
 by_cases h9:x.t<=1099511627776
 case neg=>rw[decide_eq_false fun v=>h9 v.t];simp(disch:=(fail_if_success intro _);omega) only[go_sem,simprocAttr,↓Nat.reduceEqDiff,xx,fd63,m63]
 rw[decide_eq_true ⟨⟨h1,h3⟩,⟨h2,h4⟩,⟨h5,h6⟩,⟨h7,h8⟩,h9⟩];simp(disch:=(fail_if_success intro _);omega) only[go_sem,simprocAttr,↓Nat.reduceEqDiff,xx,fd63,m63]
def bef (x y:Ky):Bool:=decide (x.p<y.p\/x.p=y.p/\x.s<y.s)
theorem before_at (h:1<=n)(x y:Ky):call gl tab n 140 [ky x,ky y] []=some (.bool (bef x y),[],[]):=by
 obtain⟨d,rfl⟩:=Nat.exists_eq_add_of_le' h
 rw[zad (fd:=fd140) rfl]
 unfold bef
 by_cases h1:x.p<y.p
 . rw[decide_eq_true (.inl h1)];simp(disch:=(fail_if_success intro _);omega) only[go_sem,simprocAttr,↓Nat.reduceEqDiff,xx,fd140,m140]
 by_cases h2:x.p=y.p
 . by_cases h3:x.s<y.s
   . rw[decide_eq_true (.inr ⟨h2,h3⟩)];simp(disch:=(fail_if_success intro _);omega) only[go_sem,simprocAttr,↓Nat.reduceEqDiff,xx,fd140,m140,h2,beq_self_eq_true]
   . rw[decide_eq_false (by omega)];simp(disch:=(fail_if_success intro _);omega) only[go_sem,simprocAttr,↓Nat.reduceEqDiff,xx,fd140,m140,h2,beq_self_eq_true]
 . rw[decide_eq_false (by omega)]
   have h3:(x.p==y.p)=false:=by rw[beq_eq_false_iff_ne];exact h2
   simp(disch:=(fail_if_success intro _);omega) only[go_sem,simprocAttr,↓Nat.reduceEqDiff,xx,fd140,m140,h3]
def cnt (x:Ky)(lo hi:Int):Bool:=decide (0<=lo/\lo<=hi/\hi<=1099511627776/\x.f<=lo/\hi<x.t)
theorem counts_at (h:1<=n)(x:Ky)(lo hi:Int):call gl tab n 152 [ky x,.agg [i64 lo,i64 hi]] []=some (.bool (cnt x lo hi),[],[]):=by
 obtain⟨d,rfl⟩:=Nat.exists_eq_add_of_le' h
 rw[zad (fd:=fd152) rfl]
 unfold cnt
 by_cases h1:0<=lo
 case neg=>rw[decide_eq_false (by omega)];simp(disch:=(fail_if_success intro _);omega) only[go_sem,simprocAttr,↓Nat.reduceEqDiff,xx,fd152,m152]
 by_cases h2:lo<=hi
 case neg=>rw[decide_eq_false (by omega)];simp(disch:=(fail_if_success intro _);omega) only[go_sem,simprocAttr,↓Nat.reduceEqDiff,xx,fd152,m152]
 by_cases h3:hi<=1099511627776
 case neg=>rw[decide_eq_false (by omega)];simp(disch:=(fail_if_success intro _);omega) only[go_sem,simprocAttr,↓Nat.reduceEqDiff,xx,fd152,m152]
 by_cases h4:x.f<=lo
 case neg=>rw[decide_eq_false (by omega)];simp(disch:=(fail_if_success intro _);omega) only[go_sem,simprocAttr,↓Nat.reduceEqDiff,xx,fd152,m152]
 by_cases h5:hi<x.t
 case neg=>rw[decide_eq_false (by omega)];simp(disch:=(fail_if_success intro _);omega) only[go_sem,simprocAttr,↓Nat.reduceEqDiff,xx,fd152,m152]
 rw[decide_eq_true (by omega)];simp(disch:=(fail_if_success intro _);omega) only[go_sem,simprocAttr,↓Nat.reduceEqDiff,xx,fd152,m152]
theorem rcounts_at (h:1<=n)(x:Ky)(lo hi:Int):call gl tab n 162 [ky x,.agg [i64 lo,i64 hi]] []=some (.bool (cnt x lo hi),[],[]):=by
 obtain⟨d,rfl⟩:=Nat.exists_eq_add_of_le' h
 rw[zad (fd:=fd162) rfl]
 unfold cnt
 by_cases h1:0<=lo
 case neg=>rw[decide_eq_false (by omega)];simp(disch:=(fail_if_success intro _);omega) only[go_sem,simprocAttr,↓Nat.reduceEqDiff,xx,fd162,m162]
 by_cases h2:lo<=hi
 case neg=>rw[decide_eq_false (by omega)];simp(disch:=(fail_if_success intro _);omega) only[go_sem,simprocAttr,↓Nat.reduceEqDiff,xx,fd162,m162]
 by_cases h3:hi<=1099511627776
 case neg=>rw[decide_eq_false (by omega)];simp(disch:=(fail_if_success intro _);omega) only[go_sem,simprocAttr,↓Nat.reduceEqDiff,xx,fd162,m162]
 by_cases h4:x.f<=lo
 case neg=>rw[decide_eq_false (by omega)];simp(disch:=(fail_if_success intro _);omega) only[go_sem,simprocAttr,↓Nat.reduceEqDiff,xx,fd162,m162]
 by_cases h5:hi<x.t
 case neg=>rw[decide_eq_false (by omega)];simp(disch:=(fail_if_success intro _);omega) only[go_sem,simprocAttr,↓Nat.reduceEqDiff,xx,fd162,m162]
 rw[decide_eq_true (by omega)];simp(disch:=(fail_if_success intro _);omega) only[go_sem,simprocAttr,↓Nat.reduceEqDiff,xx,fd162,m162]
end Go.Proofs.S44
namespace Go.Proofs.S44
open Go Go.Ev Go.Proofs
variable {gl :Gl} {n:Nat}
theorem zdq (p:Nat->Prop)(N:Nat):(∀i,i<N->p i)\/∃k,k<N/\(∀j,j<k->p j)/\¬p k:=by
 classical
 by_cases h:∀i,i<N->p i
 . exact .inl h
 . obtain⟨h1,h2,h3⟩:=zi1 p N
   refine .inr ⟨fstN p N,?_⟩
   rcases Nat.lt_or_ge (fstN p N) N with h4|h4
   . exact⟨h4,h2,h3 h4⟩
   . exact absurd (fun i hi=>h2 i (by omega)) h
structure ROk (l:List Ky)(i:Nat):Prop where
 v:VK (yat l i)
 b:0<i->bef (yat l (i-1)) (yat l i)=true
structure VR (l:List Ky):Prop where
 n:l.length<=1000
 ok:∀i,i<l.length->ROk l i
def Sm (l:List Ky):Prop:=l.length<2^60/\∀i,i<l.length->(yat l i).k.length<=9223372036854775807
def L11 :MC:=match m94 with| .seq _ (.seq (.seq _ (.block _ (.loop _ b))) _)=>b|_=>.skip
def S11 (f:Bool)(m:Sh)(l:List Ky)(i:Nat):St:=⟨[.set 3 (i64 i),.set 0 (.lst f m (ks l))],[]⟩
set_option maxHeartbeats 2000000 in
theorem ring_at (h:2<=n){f:Bool}{m:Sh}{l:List Ky}(hm:Mk l m)(hl:Sm l) :
  ∃b:Bool,(b=true↔VR l)/\call gl tab n 94 [.lst f m (ks l)] []=some (.bool b,[],[]):=by
 obtain⟨d,rfl⟩:=Nat.exists_eq_add_of_le' h
 have hl1:=hl.1
 have hs:∀i,i<l.length->ROk l i->zbm [.slot 0,.slot 3] (evC gl (call gl tab (d+1)) L11 (S11 f m l i))=some (S11 f m l (i+1)):=fun i hi ⟨p1,p2⟩=>by
  have hx:=ks_at hi
  obtain rfl:=hm.eq hi
  have c10:=@rvalid_at gl (d+1) (by omega) (yat l i) (hl.2 i hi)
  rw[decide_eq_true p1]at c10
  cases i with
  | zero=>simp(disch:=(fail_if_success intro _);omega) only[go_sem,simprocAttr,↓Nat.reduceEqDiff,xx,L11,m94,S11,zas,hx,c10]
  | succ i =>
    have hy:=ks_at (show i<l.length by omega)
    have c56:=@before_at gl (d+1) (by omega) (yat l i) (yat l (i+1))
    rw[show bef (yat l i) (yat l (i+1))=true from p2 (by omega)]at c56
    simp(disch:=(fail_if_success intro _);omega) only[go_sem,simprocAttr,↓Nat.reduceEqDiff,xx,L11,m94,S11,zas,hx,hy,c10,c56]
 have hf:∀i,i<l.length->¬ROk l i->out1 2 (evC gl (call gl tab (d+1)) L11 (S11 f m l i))=some (.ret,.bool false):=fun i hi hp=>by
  have hx:=ks_at hi
  obtain rfl:=hm.eq hi
  have c10:=@rvalid_at gl (d+1) (by omega) (yat l i) (hl.2 i hi)
  by_cases h1:VK (yat l i)
  . rw[decide_eq_true h1]at c10
    cases i with
    | zero=>exact absurd ⟨h1,fun h=>absurd h (Nat.lt_irrefl _)⟩ hp
    | succ i =>
      have hy:=ks_at (show i<l.length by omega)
      have c56:=@before_at gl (d+1) (by omega) (yat l i) (yat l (i+1))
      rw[show bef (yat l i) (yat l (i+1))=false by
       cases e:bef (yat l i) (yat l (i+1))with
       | false=>rfl
       | true=>exact absurd ⟨h1,fun _=>e⟩ hp]at c56
      simp(disch:=(fail_if_success intro _);omega) only[go_sem,simprocAttr,↓Nat.reduceEqDiff,xx,L11,m94,S11,zas,hx,hy,c10,c56]
  . rw[decide_eq_false h1]at c10
    simp(disch:=(fail_if_success intro _);omega) only[go_sem,simprocAttr,↓Nat.reduceEqDiff,xx,L11,m94,S11,zas,hx,c10]
 rw[zad (fd:=fd94) rfl]
 rcases zdq (ROk l) l.length with ha|⟨k,hk,hb',he⟩
 . refine⟨decide (l.length<=1000),?_,?_⟩
   . rw[decide_eq_true_eq]
     exact⟨fun h=>⟨h,ha⟩,fun h=>h.n⟩
   have hs2:=fun i hi=>hs i hi (ha i hi)
   simp only[L11,m94]at hs2
   simp(disch:=(fail_if_success intro _);omega) only[go_sem,simprocAttr,↓Nat.reduceEqDiff,xx,fd94,m94,zas]
   rw[zal (S11 f m l) l.length (by unfold LF;omega)]
   . simp(disch:=(fail_if_success intro _);omega) only[go_sem,simprocAttr,↓Nat.reduceEqDiff,xx,S11,zas]
   . simp(disch:=(fail_if_success intro _);omega) only[go_sem,simprocAttr,↓Nat.reduceEqDiff,xx,S11,zas]
   . exact hs2
   . simp(disch:=(fail_if_success intro _);omega) only[go_sem,simprocAttr,↓Nat.reduceEqDiff,xx,S11,zas]
 . obtain⟨st,hst,hg⟩:=zf3 (hf k hk he)
   have hs2:=fun i hi=>hs i (by omega) (hb' i hi)
   simp only[L11,m94]at hs2 hst
   refine⟨false,⟨(fun h=>by cases h),fun h=>absurd (h.ok k hk) he⟩,?_⟩
   simp(disch:=(fail_if_success intro _);omega) only[go_sem,simprocAttr,↓Nat.reduceEqDiff,xx,fd94,m94,zas]
   rw[zal (S11 f m l) k (by unfold LF;omega),hst]
   . simp(disch:=(fail_if_success intro _);omega) only[go_sem,simprocAttr,↓Nat.reduceEqDiff,xx,hg]
   . simp(disch:=(fail_if_success intro _);omega) only[go_sem,simprocAttr,↓Nat.reduceEqDiff,xx,S11,zas]
   . exact hs2
   . rw[hst];rfl
def lo (x:Ky)(p s:Int):Prop:=x.p<p\/x.p=p/\x.s<s
theorem VR.lt {l:List Ky}(hv:VR l){i:Nat}:∀{j:Nat},i<j->j<l.length->lo (yat l i) (yat l j).p (yat l j).s
 | j+1,hij,hj=>by
   have h1:=(hv.ok (j+1) hj).b (by omega)
   simp only[bef,decide_eq_true_eq,Nat.add_sub_cancel]at h1
   by_cases h:i=j
   . subst h;exact h1
   . have h2:=hv.lt (show i<j by omega) (by omega)
     unfold lo at *;omega
structure Pl (l:List Ky)(p s:Int)(k:Nat):Prop where
 le:k<=l.length
 lo:∀j,j<k->lo (yat l j) p s
 hi:∀j,k<=j->j<l.length->¬S44.lo (yat l j) p s
def cv (x:Ky)(p s:Int):Int:=if x.p=p then IntKind.wrap .i64 (x.s-s)else IntKind.wrap .i64 (x.p-p)
theorem wrap_0 {a:Int}(h1:-18446744073709551616<a)(h2:a<18446744073709551616)(h:IntKind.wrap .i64 a=0):a=0:=by
 simp only[IntKind.wrap,IntKind.bits,IntKind.signed,Bool.true_and]at h
 simp only[Nat.add_one_sub_one,Int.reducePow]at h
 split at h<;>simp_all<;>omega
def R64 (x:Int):Prop:=-9223372036854775808<=x/\x<=9223372036854775807
theorem cv_0 {x:Ky}(hx:VK x){p s:Int}(hp:R64 p)(hs:R64 s):cv x p s=0↔x.p=p/\x.s=s:=by
 have h1:=hx.p;have h2:=hx.s
 unfold R64 at *
 unfold cv
 by_cases h:x.p=p
 . rw[if_pos h]
   refine⟨fun e=>⟨h,?_⟩,fun⟨_,e⟩=> ?_⟩
   . have:=wrap_0 (by omega) (by omega) e;omega
   . rw[zaz (by omega) (by omega)];omega
 . rw[if_neg h]
   refine⟨fun e=> ?_,fun⟨e,_⟩=>absurd e h⟩
   have:=wrap_0 (by omega) (by omega) e;omega
theorem cv_lt {x:Ky}(hx:VK x){p s:Int}(hp:-4611686018427387904<=p/\p<=4611686018427387904)(hs:-4611686018427387904<=s/\s<=4611686018427387904):cv x p s<0↔lo x p s:=by
 have h1:=hx.p;have h2:=hx.s
 unfold cv lo
 by_cases h:x.p=p
 . rw[if_pos h,zaz (by omega) (by omega)];omega
 . rw[if_neg h,zaz (by omega) (by omega)];omega
theorem cmp_at (h:1<=n)(x:Ky)(p s:Int):call gl tab n 176 [ky x,i64 p,.ptr 100000 []] [(100000,.fix .sc (i64 s))]=some (i64 (cv x p s),[(100000,.fix .sc (i64 s))],[]):=by
 obtain⟨d,rfl⟩:=Nat.exists_eq_add_of_le' h
 rw[zax (fd:=fd176) rfl]
 unfold cv
 by_cases h1:x.p=p
 . have h2:(x.p != p)=false:=by rw[h1];exact bne_self_eq_false p
   rw[if_pos h1]
   simp(disch:=(fail_if_success intro _);omega) only[go_sem,simprocAttr,↓Nat.reduceEqDiff,xx,fd176,m176,h2]
 . have h2:(x.p != p)=true:=by simpa using h1
   rw[if_neg h1]
   simp(disch:=(fail_if_success intro _);omega) only[go_sem,simprocAttr,↓Nat.reduceEqDiff,xx,fd176,m176,h2]
end Go.Proofs.S44
