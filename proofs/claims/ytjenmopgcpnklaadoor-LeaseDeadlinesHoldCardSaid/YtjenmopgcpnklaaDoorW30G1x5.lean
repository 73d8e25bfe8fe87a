/-
  Chapter 4: keys; what is valid; what counts. No condition.
-/
import Derived.Test.YtjenmopgcpnklaaDoorW30
import Derived.Test.YtjenmopgcpnklaaDoorEvY
set_option linter.unusedVariables false
set_option linter.unusedSimpArgs false
set_option linter.unusedSectionVars false
namespace Go.Proofs.S30
open Go Go.Ev Go.Proofs
variable {gl :Gl} {n:Nat}
abbrev i64 (n:Int):AV:=.int .i64 n
structure Ky where
 p:Int
 s:Int
 k:List UInt8
 f:Int
 t:Int
abbrev ky (x:Ky):AV:=.agg [i64 x.p,i64 x.s,.str x.k,i64 x.f,i64 x.t]
def ks (l:List Ky):List AV:=l.map fun x=>.agg [i64 x.p,i64 x.s,.str x.k,i64 x.f,i64 x.t]
def yat (l:List Ky)(i:Nat):Ky:=l.getD i ⟨0,0,[],0,0⟩
abbrev sY :Sh:=.st [.sc,.sc,.sc,.sc,.sc]
theorem ks_length (l:List Ky):(ks l).length=l.length:=by simp[ks]
theorem ks_at {l:List Ky}{i:Nat}(h:i<l.length):(ks l)[i]? =some (.agg [i64 (yat l i).p,i64 (yat l i).s,.str (yat l i).k,i64 (yat l i).f,i64 (yat l i).t]):=by simp[ks,yat,h]
theorem ks_nil :ks []=[]:=rfl
theorem ks_app (l:List Ky)(s:Ky):ks (l++[s])=ks l++[.agg [i64 s.p,i64 s.s,.str s.k,i64 s.f,i64 s.t]]:=by simp[ks]
theorem ks_take (l:List Ky)(v:AV):(ks l++[v]).take (l.length+1)=ks l++[v]:=by rw[<-ks_length];exact List.take_of_length_le (by simp)
theorem ks_take' (l:List Ky):(ks l).take l.length=ks l:=by rw[<-ks_length];exact List.take_length
def Mk (l:List Ky)(m:Sh):Prop:=l=[]\/m=sY
theorem Mk.eq {l:List Ky}{m:Sh}(h:Mk l m){i:Nat}(hi:i<l.length):m=sY:=h.resolve_left (by rintro rfl;simp at hi)
structure VK (x:Ky):Prop where
 p:1<=x.p/\x.p<=1073741824
 s:1<=x.s/\x.s<=1073741824
 k:1<=x.k.length/\x.k.length<=64
 f:0<=x.f/\x.f<x.t
 t:x.t<=1099511627776
instance (x :Ky):Decidable (VK x) :=
 decidable_of_iff ((1<=x.p/\x.p<=1073741824)/\(1<=x.s/\x.s<=1073741824)/\(1<=x.k.length/\x.k.length<=64)/\(0<=x.f/\x.f<x.t)/\x.t<=1099511627776)
  ⟨fun⟨a,b,c,d,e⟩=>⟨a,b,c,d,e⟩,fun⟨a,b,c,d,e⟩=>⟨a,b,c,d,e⟩⟩
theorem min_ex (x y:Int):∃m,foldO minAV (i64 x) [i64 y]=some (i64 m)/\m<=x/\m<=y/\(m=x\/m=y):=by
 refine⟨if y<x then y else x,by simp[foldO,minAV],?_⟩
 by_cases h:y<x
 . rw[if_pos h];omega
 . rw[if_neg h];omega
theorem max_ex (x y:Int):∃m,foldO maxAV (i64 x) [i64 y]=some (i64 m)/\x<=m/\y<=m/\(m=x\/m=y):=by
 refine⟨if y>x then y else x,by simp[foldO,maxAV],?_⟩
 by_cases h:y>x
 . rw[if_pos h];omega
 . rw[if_neg h];omega
set_option maxHeartbeats 1000000 in
theorem valid_at (h:1<=n)(x:Ky)(hk:x.k.length<=9223372036854775807):call gl tab n 35 [ky x] []=some (.bool (decide (VK x)),[],[]):=by
 obtain⟨d,rfl⟩:=Nat.exists_eq_add_of_le' h
 obtain⟨mn,hmn,a1,a2,a3⟩:=min_ex x.p x.s
 obtain⟨mx,hmx,b1,b2,b3⟩:=max_ex x.p x.s
 rw[call_go (fd:=fd35) rfl]
 by_cases h1:1<=x.p
 case neg=>rw[decide_eq_false fun v=>h1 v.p.1];simp(disch:=((fail_if_success (intro _));omega)) only[go_sem,simprocAttr,↓reduceIte,↓Nat.reduceEqDiff,xx,fd35,m35,hmn,hmx]
 by_cases h2:1<=x.s
 case neg=>rw[decide_eq_false fun v=>h2 v.s.1];simp(disch:=((fail_if_success (intro _));omega)) only[go_sem,simprocAttr,↓reduceIte,↓Nat.reduceEqDiff,xx,fd35,m35,hmn,hmx]
 by_cases h3:x.p<=1073741824
 case neg=>rw[decide_eq_false fun v=>h3 v.p.2];simp(disch:=((fail_if_success (intro _));omega)) only[go_sem,simprocAttr,↓reduceIte,↓Nat.reduceEqDiff,xx,fd35,m35,hmn,hmx]
 by_cases h4:x.s<=1073741824
 case neg=>rw[decide_eq_false fun v=>h4 v.s.2];simp(disch:=((fail_if_success (intro _));omega)) only[go_sem,simprocAttr,↓reduceIte,↓Nat.reduceEqDiff,xx,fd35,m35,hmn,hmx]
 by_cases h5:1<=x.k.length
 case neg=>rw[decide_eq_false fun v=>h5 v.k.1];simp(disch:=((fail_if_success (intro _));omega)) only[go_sem,simprocAttr,↓reduceIte,↓Nat.reduceEqDiff,xx,fd35,m35,hmn,hmx]
 by_cases h6:x.k.length<=64
 case neg=>rw[decide_eq_false fun v=>h6 v.k.2];simp(disch:=((fail_if_success (intro _));omega)) only[go_sem,simprocAttr,↓reduceIte,↓Nat.reduceEqDiff,xx,fd35,m35,hmn,hmx]
 by_cases h7:0<=x.f
 case neg=>rw[decide_eq_false fun v=>h7 v.f.1];simp(disch:=((fail_if_success (intro _));omega)) only[go_sem,simprocAttr,↓reduceIte,↓Nat.reduceEqDiff,xx,fd35,m35,hmn,hmx]
 by_cases h8:x.f<x.t
 case neg=>rw[decide_eq_false fun v=>h8 v.f.2];simp(disch:=((fail_if_success (intro _));omega)) only[go_sem,simprocAttr,↓reduceIte,↓Nat.reduceEqDiff,xx,fd35,m35,hmn,hmx]
 by_cases h9:x.t<=1099511627776
 case neg=>rw[decide_eq_false fun v=>h9 v.t];simp(disch:=((fail_if_success (intro _));omega)) only[go_sem,simprocAttr,↓reduceIte,↓Nat.reduceEqDiff,xx,fd35,m35,hmn,hmx]
 rw[decide_eq_true ⟨⟨h1,h3⟩,⟨h2,h4⟩,⟨h5,h6⟩,⟨h7,h8⟩,h9⟩];simp(disch:=((fail_if_success (intro _));omega)) only[go_sem,simprocAttr,↓reduceIte,↓Nat.reduceEqDiff,xx,fd35,m35,hmn,hmx]
set_option maxHeartbeats 1000000 in
theorem rvalid_at (h:1<=n)(x:Ky)(hk:x.k.length<=9223372036854775807):call gl tab n 42 [ky x] []=some (.bool (decide (VK x)),[],[]):=by
 obtain⟨d,rfl⟩:=Nat.exists_eq_add_of_le' h
 rw[call_go (fd:=fd42) rfl]
 by_cases h1:1<=x.p
 case neg=>rw[decide_eq_false fun v=>h1 v.p.1];simp(disch:=((fail_if_success (intro _));omega)) only[go_sem,simprocAttr,↓reduceIte,↓Nat.reduceEqDiff,xx,fd42,m42]
 by_cases h3:x.p<=1073741824
 case neg=>rw[decide_eq_false fun v=>h3 v.p.2];simp(disch:=((fail_if_success (intro _));omega)) only[go_sem,simprocAttr,↓reduceIte,↓Nat.reduceEqDiff,xx,fd42,m42]
 by_cases h2:1<=x.s
 case neg=>rw[decide_eq_false fun v=>h2 v.s.1];simp(disch:=((fail_if_success (intro _));omega)) only[go_sem,simprocAttr,↓reduceIte,↓Nat.reduceEqDiff,xx,fd42,m42]
 by_cases h4:x.s<=1073741824
 case neg=>rw[decide_eq_false fun v=>h4 v.s.2];simp(disch:=((fail_if_success (intro _));omega)) only[go_sem,simprocAttr,↓reduceIte,↓Nat.reduceEqDiff,xx,fd42,m42]
 by_cases h5:1<=x.k.length
 case neg=>rw[decide_eq_false fun v=>h5 v.k.1];simp(disch:=((fail_if_success (intro _));omega)) only[go_sem,simprocAttr,↓reduceIte,↓Nat.reduceEqDiff,xx,fd42,m42]
 by_cases h6:x.k.length<=64
 case neg=>rw[decide_eq_false fun v=>h6 v.k.2];simp(disch:=((fail_if_success (intro _));omega)) only[go_sem,simprocAttr,↓reduceIte,↓Nat.reduceEqDiff,xx,fd42,m42]
 by_cases h7:0<=x.f
 case neg=>rw[decide_eq_false fun v=>h7 v.f.1];simp(disch:=((fail_if_success (intro _));omega)) only[go_sem,simprocAttr,↓reduceIte,↓Nat.reduceEqDiff,xx,fd42,m42]
 by_cases h8:x.f<x.t
 case neg=>rw[decide_eq_false fun v=>h8 v.f.2];simp(disch:=((fail_if_success (intro _));omega)) only[go_sem,simprocAttr,↓reduceIte,↓Nat.reduceEqDiff,xx,fd42,m42]
 by_cases h9:x.t<=1099511627776
 case neg=>rw[decide_eq_false fun v=>h9 v.t];simp(disch:=((fail_if_success (intro _));omega)) only[go_sem,simprocAttr,↓reduceIte,↓Nat.reduceEqDiff,xx,fd42,m42]
 rw[decide_eq_true ⟨⟨h1,h3⟩,⟨h2,h4⟩,⟨h5,h6⟩,⟨h7,h8⟩,h9⟩];simp(disch:=((fail_if_success (intro _));omega)) only[go_sem,simprocAttr,↓reduceIte,↓Nat.reduceEqDiff,xx,fd42,m42]
def bef (x y:Ky):Bool:=decide (x.p<y.p\/x.p=y.p/\x.s<y.s)
def cnt (x:Ky)(lo hi:Int):Bool:=decide (0<=lo/\lo<=hi/\hi<=1099511627776/\x.f<=lo/\hi<x.t)
theorem counts_at (h:1<=n)(x:Ky)(lo hi:Int):call gl tab n 75 [ky x,.agg [i64 lo,i64 hi]] []=some (.bool (cnt x lo hi),[],[]):=by
 obtain⟨d,rfl⟩:=Nat.exists_eq_add_of_le' h
 rw[call_go (fd:=fd75) rfl]
 unfold cnt
 by_cases h1:0<=lo
 case neg=>rw[decide_eq_false (by omega)];simp(disch:=((fail_if_success (intro _));omega)) only[go_sem,simprocAttr,↓reduceIte,↓Nat.reduceEqDiff,xx,fd75,m75]
 by_cases h2:lo<=hi
 case neg=>rw[decide_eq_false (by omega)];simp(disch:=((fail_if_success (intro _));omega)) only[go_sem,simprocAttr,↓reduceIte,↓Nat.reduceEqDiff,xx,fd75,m75]
 by_cases h3:hi<=1099511627776
 case neg=>rw[decide_eq_false (by omega)];simp(disch:=((fail_if_success (intro _));omega)) only[go_sem,simprocAttr,↓reduceIte,↓Nat.reduceEqDiff,xx,fd75,m75]
 by_cases h4:x.f<=lo
 case neg=>rw[decide_eq_false (by omega)];simp(disch:=((fail_if_success (intro _));omega)) only[go_sem,simprocAttr,↓reduceIte,↓Nat.reduceEqDiff,xx,fd75,m75]
 by_cases h5:hi<x.t
 case neg=>rw[decide_eq_false (by omega)];simp(disch:=((fail_if_success (intro _));omega)) only[go_sem,simprocAttr,↓reduceIte,↓Nat.reduceEqDiff,xx,fd75,m75]
 rw[decide_eq_true (by omega)];simp(disch:=((fail_if_success (intro _));omega)) only[go_sem,simprocAttr,↓reduceIte,↓Nat.reduceEqDiff,xx,fd75,m75]
end Go.Proofs.S30
namespace Go.Proofs.S30
open Go Go.Ev Go.Proofs
variable {gl :Gl} {n:Nat}
theorem first_fail (p:Nat->Prop)(N:Nat):(∀i,i<N->p i)\/∃k,k<N/\(∀j,j<k->p j)/\¬p k:=by
 classical
 by_cases h:∀i,i<N->p i
 . exact .inl h
 . obtain⟨h1,h2,h3⟩:=fst_spec p N
   refine .inr ⟨fstN p N,?_⟩
   rcases Nat.lt_or_ge (fstN p N) N with h4|h4
   . exact⟨h4,h2,h3 h4⟩
   . exact absurd (fun i hi=>h2 i (by omega)) h
structure ROk (l:List Ky)(i:Nat):Prop where
 v:VK (yat l i)
 b:0<i->bef (yat l (i-1)) (yat l i)=true
theorem ROk_eq (l:List Ky)(i:Nat):ROk l i=(VK (yat l i)/\(0<i->bef (yat l (i-1)) (yat l i)=true)):=propext ⟨fun h=>⟨h.v,h.b⟩,fun h=>⟨h.1,h.2⟩⟩
structure VR (l:List Ky):Prop where
 n:l.length<=1000
 ok:∀i,i<l.length->ROk l i
def Sm (l:List Ky):Prop:=l.length<2^60/\∀i,i<l.length->(yat l i).k.length<=9223372036854775807
def S11 (f:Bool)(m:Sh)(l:List Ky)(i:Nat):St:=⟨[.set 3 (i64 i),.set 0 (.lst f m (ks l))],[]⟩
def lo (x:Ky)(p s:Int):Prop:=x.p<p\/x.p=p/\x.s<s
theorem VR.lt {l:List Ky}(hv:VR l){i:Nat}:∀{j:Nat},i<j->j<l.length->lo (yat l i) (yat l j).p (yat l j).s
 | j+1,hij,hj=>by
   have h1:=(hv.ok (j+1) hj).b (by omega)
   simp only[bef,decide_eq_true_eq,Nat.add_sub_cancel]at h1
   by_cases h:i=j
   . subst h;exact h1
   . have h2:=hv.lt (show i<j by omega) (by omega)
     unfold lo at *;omega
structure Pl (l:List Ky)(p s:Int)(k:Nat):Prop where
 le:k<=l.length
 lo:∀j,j<k->lo (yat l j) p s
 hi:∀j,k<=j->j<l.length->¬S30.lo (yat l j) p s
def cv (x:Ky)(p s:Int):Int:=if x.p=p then IntKind.wrap .i64 (x.s-s)else IntKind.wrap .i64 (x.p-p)
theorem wrap_0 {a:Int}(h1:-18446744073709551616<a)(h2:a<18446744073709551616)(h:IntKind.wrap .i64 a=0):a=0:=by
 simp only[IntKind.wrap,IntKind.bits,IntKind.signed,Bool.true_and]at h
 simp only[Nat.add_one_sub_one,Int.reducePow]at h
 split at h<;>simp_all<;>omega
def R64 (x:Int):Prop:=-9223372036854775808<=x/\x<=9223372036854775807
theorem cv_0 {x:Ky}(hx:VK x){p s:Int}(hp:R64 p)(hs:R64 s):cv x p s=0↔x.p=p/\x.s=s:=by
 have h1:=hx.p;have h2:=hx.s
 unfold R64 at *
 unfold cv
 by_cases h:x.p=p
 . rw[if_pos h]
   refine⟨fun e=>⟨h,?_⟩,fun⟨_,e⟩=> ?_⟩
   . have:=wrap_0 (by omega) (by omega) e;omega
   . rw[wrap_i64 (by omega) (by omega)];omega
 . rw[if_neg h]
   refine⟨fun e=> ?_,fun⟨e,_⟩=>absurd e h⟩
   have:=wrap_0 (by omega) (by omega) e;omega
theorem cv_lt {x:Ky}(hx:VK x){p s:Int}(hp:-4611686018427387904<=p/\p<=4611686018427387904)(hs:-4611686018427387904<=s/\s<=4611686018427387904):cv x p s<0↔lo x p s:=by
 have h1:=hx.p;have h2:=hx.s
 unfold cv lo
 by_cases h:x.p=p
 . rw[if_pos h,wrap_i64 (by omega) (by omega)];omega
 . rw[if_neg h,wrap_i64 (by omega) (by omega)];omega
theorem cmp_at (h:1<=n)(x:Ky)(p s:Int):call gl tab n 98 [ky x,i64 p,.ptr 100000 []] [(100000,.fix .sc (i64 s))]=some (i64 (cv x p s),[(100000,.fix .sc (i64 s))],[]):=by
 obtain⟨d,rfl⟩:=Nat.exists_eq_add_of_le' h
 rw[call_gen (fd:=fd98) rfl]
 unfold cv
 by_cases h1:x.p=p
 . have h2:(x.p != p)=false:=by rw[h1];exact bne_self_eq_false p
   rw[if_pos h1]
   simp(disch:=((fail_if_success (intro _));omega)) only[go_sem,simprocAttr,↓reduceIte,↓Nat.reduceEqDiff,xx,fd98,m98,h2]
 . have h2:(x.p != p)=true:=by simpa using h1
   rw[if_neg h1]
   simp(disch:=((fail_if_success (intro _));omega)) only[go_sem,simprocAttr,↓reduceIte,↓Nat.reduceEqDiff,xx,fd98,m98,h2]
end Go.Proofs.S30
