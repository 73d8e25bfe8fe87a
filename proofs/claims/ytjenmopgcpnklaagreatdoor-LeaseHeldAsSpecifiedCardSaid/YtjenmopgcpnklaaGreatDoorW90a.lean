/-
  Chapter 4: keys; what is valid; what counts. No condition.
-/
import Derived.Test.YtjenmopgcpnklaaGreatDoorW90
import Derived.Test.YtjenmopgcpnklaaGreatDoorEvY
set_option linter.unusedVariables false
set_option linter.unusedSimpArgs false
set_option linter.unusedSectionVars false
namespace Go.Proofs.S90
open Go Go.Ev Go.Proofs
variable {gl :Gl} {n:Nat}
abbrev i64 (n:Int):AV:=.int .i64 n
structure Ky where
 p:Int
 s:Int
 k:List UInt8
 f:Int
 t:Int
abbrev ky (x:Ky):AV:=.agg [i64 x.p,i64 x.s,.str x.k,i64 x.f,i64 x.t]
def ks (l:List Ky):List AV:=l.map fun x=>.agg [i64 x.p,i64 x.s,.str x.k,i64 x.f,i64 x.t]
def yat (l:List Ky)(i:Nat):Ky:=l.getD i ⟨0,0,[],0,0⟩
abbrev sY :Sh:=.st [.sc,.sc,.sc,.sc,.sc]
theorem ks_length (l:List Ky):(ks l).length=l.length:=by simp[ks]
theorem ks_at {l:List Ky}{i:Nat}(h:i<l.length):(ks l)[i]? =some (.agg [i64 (yat l i).p,i64 (yat l i).s,.str (yat l i).k,i64 (yat l i).f,i64 (yat l i).t]):=by simp[ks,yat,h]
theorem ks_nil :ks []=[]:=rfl
theorem ks_app (l:List Ky)(s:Ky):ks (l++[s])=ks l++[.agg [i64 s.p,i64 s.s,.str s.k,i64 s.f,i64 s.t]]:=by simp[ks]
theorem ks_take (l:List Ky)(v:AV):(ks l++[v]).take (l.length+1)=ks l++[v]:=by rw[<-ks_length];exact List.take_of_length_le (by simp)
theorem ks_take' (l:List Ky):(ks l).take l.length=ks l:=by rw[<-ks_length];exact List.take_length
def Mk (l:List Ky)(m:Sh):Prop:=l=[]\/m=sY
theorem Mk.eq {l:List Ky}{m:Sh}(h:Mk l m){i:Nat}(hi:i<l.length):m=sY:=h.resolve_left (by rintro rfl;simp at hi)
structure VK (x:Ky):Prop where
 p:1<=x.p/\x.p<=1073741824
 s:1<=x.s/\x.s<=1073741824
 k:1<=x.k.length/\x.k.length<=64
 f:0<=x.f/\x.f<x.t
 t:x.t<=1099511627776
instance (x :Ky):Decidable (VK x) :=
 decidable_of_iff ((1<=x.p/\x.p<=1073741824)/\(1<=x.s/\x.s<=1073741824)/\(1<=x.k.length/\x.k.length<=64)/\(0<=x.f/\x.f<x.t)/\x.t<=1099511627776)
  ⟨fun⟨a,b,c,d,e⟩=>⟨a,b,c,d,e⟩,fun⟨a,b,c,d,e⟩=>⟨a,b,c,d,e⟩⟩
theorem min_ex (x y:Int):∃m,foldO minAV (i64 x) [i64 y]=some (i64 m)/\m<=x/\m<=y/\(m=x\/m=y):=by
 refine⟨if y<x then y else x,by simp[foldO,minAV],?_⟩
 by_cases h:y<x
 . rw[if_pos h];omega
 . rw[if_neg h];omega
theorem max_ex (x y:Int):∃m,foldO maxAV (i64 x) [i64 y]=some (i64 m)/\x<=m/\y<=m/\(m=x\/m=y):=by
 refine⟨if y>x then y else x,by simp[foldO,maxAV],?_⟩
 by_cases h:y>x
 . rw[if_pos h];omega
 . rw[if_neg h];omega
set_option maxHeartbeats 1000000 in
theorem valid_at (h:1<=n)(x:Ky)(hk:x.k.length<=9223372036854775807):call gl tab n 37 [ky x] []=some (.bool (decide (VK x)),[],[]):=by
 obtain⟨d,rfl⟩:=Nat.exists_eq_add_of_le' h
 obtain⟨mn,hmn,a1,a2,a3⟩:=min_ex x.p x.s
 obtain⟨mx,hmx,b1,b2,b3⟩:=max_ex x.p x.s
 rw[call_go (fd:=fd37) rfl]
 by_cases h1:1<=x.p
 case neg=>rw[decide_eq_false fun v=>h1 v.p.1];simp(disch:=((fail_if_success (intro _));omega)) only[go_sem,simprocAttr,↓reduceIte,↓Nat.reduceEqDiff,xx,fd37,m37,hmn,hmx]
 by_cases h2:1<=x.s
 case neg=>rw[decide_eq_false fun v=>h2 v.s.1];simp(disch:=((fail_if_success (intro _));omega)) only[go_sem,simprocAttr,↓reduceIte,↓Nat.reduceEqDiff,xx,fd37,m37,hmn,hmx]
 by_cases h3:x.p<=1073741824
 case neg=>rw[decide_eq_false fun v=>h3 v.p.2];simp(disch:=((fail_if_success (intro _));omega)) only[go_sem,simprocAttr,↓reduceIte,↓Nat.reduceEqDiff,xx,fd37,m37,hmn,hmx]
 by_cases h4:x.s<=1073741824
 case neg=>rw[decide_eq_false fun v=>h4 v.s.2];simp(disch:=((fail_if_success (intro _));omega)) only[go_sem,simprocAttr,↓reduceIte,↓Nat.reduceEqDiff,xx,fd37,m37,hmn,hmx]
 by_cases h5:1<=x.k.length
 case neg=>rw[decide_eq_false fun v=>h5 v.k.1];simp(disch:=((fail_if_success (intro _));omega)) only[go_sem,simprocAttr,↓reduceIte,↓Nat.reduceEqDiff,xx,fd37,m37,hmn,hmx]
 by_cases h6:x.k.length<=64
 case neg=>rw[decide_eq_false fun v=>h6 v.k.2];simp(disch:=((fail_if_success (intro _));omega)) only[go_sem,simprocAttr,↓reduceIte,↓Nat.reduceEqDiff,xx,fd37,m37,hmn,hmx]
 by_cases h7:0<=x.f
 case neg=>rw[decide_eq_false fun v=>h7 v.f.1];simp(disch:=((fail_if_success (intro _));omega)) only[go_sem,simprocAttr,↓reduceIte,↓Nat.reduceEqDiff,xx,fd37,m37,hmn,hmx]
 by_cases h8:x.f<x.t
 case neg=>rw[decide_eq_false fun v=>h8 v.f.2];simp(disch:=((fail_if_success (intro _));omega)) only[go_sem,simprocAttr,↓reduceIte,↓Nat.reduceEqDiff,xx,fd37,m37,hmn,hmx]
 by_cases h9:x.t<=1099511627776
 case neg=>rw[decide_eq_false fun v=>h9 v.t];simp(disch:=((fail_if_success (intro _));omega)) only[go_sem,simprocAttr,↓reduceIte,↓Nat.reduceEqDiff,xx,fd37,m37,hmn,hmx]
 rw[decide_eq_true ⟨⟨h1,h3⟩,⟨h2,h4⟩,⟨h5,h6⟩,⟨h7,h8⟩,h9⟩];simp(disch:=((fail_if_success (intro _));omega)) only[go_sem,simprocAttr,↓reduceIte,↓Nat.reduceEqDiff,xx,fd37,m37,hmn,hmx]
set_option maxHeartbeats 1000000 in
theorem rvalid_at (h:1<=n)(x:Ky)(hk:x.k.length<=9223372036854775807):call gl tab n 14 [ky x] []=some (.bool (decide (VK x)),[],[]):=by
 obtain⟨d,rfl⟩:=Nat.exists_eq_add_of_le' h
 rw[call_go (fd:=fd14) rfl]
 by_cases h1:1<=x.p
 case neg=>rw[decide_eq_false fun v=>h1 v.p.1];simp(disch:=((fail_if_success (intro _));omega)) only[go_sem,simprocAttr,↓reduceIte,↓Nat.reduceEqDiff,xx,fd14,m14]
 by_cases h3:x.p<=1073741824
 case neg=>rw[decide_eq_false fun v=>h3 v.p.2];simp(disch:=((fail_if_success (intro _));omega)) only[go_sem,simprocAttr,↓reduceIte,↓Nat.reduceEqDiff,xx,fd14,m14]
 by_cases h2:1<=x.s
 case neg=>rw[decide_eq_false fun v=>h2 v.s.1];simp(disch:=((fail_if_success (intro _));omega)) only[go_sem,simprocAttr,↓reduceIte,↓Nat.reduceEqDiff,xx,fd14,m14]
 by_cases h4:x.s<=1073741824
 case neg=>rw[decide_eq_false fun v=>h4 v.s.2];simp(disch:=((fail_if_success (intro _));omega)) only[go_sem,simprocAttr,↓reduceIte,↓Nat.reduceEqDiff,xx,fd14,m14]
 by_cases h5:1<=x.k.length
 case neg=>rw[decide_eq_false fun v=>h5 v.k.1];simp(disch:=((fail_if_success (intro _));omega)) only[go_sem,simprocAttr,↓reduceIte,↓Nat.reduceEqDiff,xx,fd14,m14]
 by_cases h6:x.k.length<=64
 case neg=>rw[decide_eq_false fun v=>h6 v.k.2];simp(disch:=((fail_if_success (intro _));omega)) only[go_sem,simprocAttr,↓reduceIte,↓Nat.reduceEqDiff,xx,fd14,m14]
 by_cases h7:0<=x.f
 case neg=>rw[decide_eq_false fun v=>h7 v.f.1];simp(disch:=((fail_if_success (intro _));omega)) only[go_sem,simprocAttr,↓reduceIte,↓Nat.reduceEqDiff,xx,fd14,m14]
 by_cases h8:x.f<x.t
 case neg=>rw[decide_eq_false fun v=>h8 v.f.2];simp(disch:=((fail_if_success (intro _));omega)) only[go_sem,simprocAttr,↓reduceIte,↓Nat.reduceEqDiff,xx,fd14,m14]
 by_cases h9:x.t<=1099511627776
 case neg=>rw[decide_eq_false fun v=>h9 v.t];simp(disch:=((fail_if_success (intro _));omega)) only[go_sem,simprocAttr,↓reduceIte,↓Nat.reduceEqDiff,xx,fd14,m14]
 rw[decide_eq_true ⟨⟨h1,h3⟩,⟨h2,h4⟩,⟨h5,h6⟩,⟨h7,h8⟩,h9⟩];simp(disch:=((fail_if_success (intro _));omega)) only[go_sem,simprocAttr,↓reduceIte,↓Nat.reduceEqDiff,xx,fd14,m14]
def bef (x y:Ky):Bool:=decide (x.p<y.p\/x.p=y.p/\x.s<y.s)
theorem before_at (h:1<=n)(x y:Ky):call gl tab n 15 [ky x,ky y] []=some (.bool (bef x y),[],[]):=by
 obtain⟨d,rfl⟩:=Nat.exists_eq_add_of_le' h
 rw[call_go (fd:=fd15) rfl]
 unfold bef
 by_cases h1:x.p<y.p
 . rw[decide_eq_true (.inl h1)];simp(disch:=((fail_if_success (intro _));omega)) only[go_sem,simprocAttr,↓reduceIte,↓Nat.reduceEqDiff,xx,fd15,m15]
 by_cases h2:x.p=y.p
 . by_cases h3:x.s<y.s
   . rw[decide_eq_true (.inr ⟨h2,h3⟩)];simp(disch:=((fail_if_success (intro _));omega)) only[go_sem,simprocAttr,↓reduceIte,↓Nat.reduceEqDiff,xx,fd15,m15,h2,beq_self_eq_true]
   . rw[decide_eq_false (by omega)];simp(disch:=((fail_if_success (intro _));omega)) only[go_sem,simprocAttr,↓reduceIte,↓Nat.reduceEqDiff,xx,fd15,m15,h2,beq_self_eq_true]
 . rw[decide_eq_false (by omega)]
   have h3:(x.p==y.p)=false:=by rw[beq_eq_false_iff_ne];exact h2
   simp(disch:=((fail_if_success (intro _));omega)) only[go_sem,simprocAttr,↓reduceIte,↓Nat.reduceEqDiff,xx,fd15,m15,h3]
def cnt (x:Ky)(lo hi:Int):Bool:=decide (0<=lo/\lo<=hi/\hi<=1099511627776/\x.f<=lo/\hi<x.t)
theorem counts_at (h:1<=n)(x:Ky)(lo hi:Int):call gl tab n 62 [ky x,.agg [i64 lo,i64 hi]] []=some (.bool (cnt x lo hi),[],[]):=by
 obtain⟨d,rfl⟩:=Nat.exists_eq_add_of_le' h
 rw[call_go (fd:=fd62) rfl]
 unfold cnt
 by_cases h1:0<=lo
 case neg=>rw[decide_eq_false (by omega)];simp(disch:=((fail_if_success (intro _));omega)) only[go_sem,simprocAttr,↓reduceIte,↓Nat.reduceEqDiff,xx,fd62,m62]
 by_cases h2:lo<=hi
 case neg=>rw[decide_eq_false (by omega)];simp(disch:=((fail_if_success (intro _));omega)) only[go_sem,simprocAttr,↓reduceIte,↓Nat.reduceEqDiff,xx,fd62,m62]
 by_cases h3:hi<=1099511627776
 case neg=>rw[decide_eq_false (by omega)];simp(disch:=((fail_if_success (intro _));omega)) only[go_sem,simprocAttr,↓reduceIte,↓Nat.reduceEqDiff,xx,fd62,m62]
 by_cases h4:x.f<=lo
 case neg=>rw[decide_eq_false (by omega)];simp(disch:=((fail_if_success (intro _));omega)) only[go_sem,simprocAttr,↓reduceIte,↓Nat.reduceEqDiff,xx,fd62,m62]
 by_cases h5:hi<x.t
 case neg=>rw[decide_eq_false (by omega)];simp(disch:=((fail_if_success (intro _));omega)) only[go_sem,simprocAttr,↓reduceIte,↓Nat.reduceEqDiff,xx,fd62,m62]
 rw[decide_eq_true (by omega)];simp(disch:=((fail_if_success (intro _));omega)) only[go_sem,simprocAttr,↓reduceIte,↓Nat.reduceEqDiff,xx,fd62,m62]
theorem rcounts_at (h:1<=n)(x:Ky)(lo hi:Int):call gl tab n 68 [ky x,.agg [i64 lo,i64 hi]] []=some (.bool (cnt x lo hi),[],[]):=by
 obtain⟨d,rfl⟩:=Nat.exists_eq_add_of_le' h
 rw[call_go (fd:=fd68) rfl]
 unfold cnt
 by_cases h1:0<=lo
 case neg=>rw[decide_eq_false (by omega)];simp(disch:=((fail_if_success (intro _));omega)) only[go_sem,simprocAttr,↓reduceIte,↓Nat.reduceEqDiff,xx,fd68,m68]
 by_cases h2:lo<=hi
 case neg=>rw[decide_eq_false (by omega)];simp(disch:=((fail_if_success (intro _));omega)) only[go_sem,simprocAttr,↓reduceIte,↓Nat.reduceEqDiff,xx,fd68,m68]
 by_cases h3:hi<=1099511627776
 case neg=>rw[decide_eq_false (by omega)];simp(disch:=((fail_if_success (intro _));omega)) only[go_sem,simprocAttr,↓reduceIte,↓Nat.reduceEqDiff,xx,fd68,m68]
 by_cases h4:x.f<=lo
 case neg=>rw[decide_eq_false (by omega)];simp(disch:=((fail_if_success (intro _));omega)) only[go_sem,simprocAttr,↓reduceIte,↓Nat.reduceEqDiff,xx,fd68,m68]
 by_cases h5:hi<x.t
 case neg=>rw[decide_eq_false (by omega)];simp(disch:=((fail_if_success (intro _));omega)) only[go_sem,simprocAttr,↓reduceIte,↓Nat.reduceEqDiff,xx,fd68,m68]
 rw[decide_eq_true (by omega)];simp(disch:=((fail_if_success (intro _));omega)) only[go_sem,simprocAttr,↓reduceIte,↓Nat.reduceEqDiff,xx,fd68,m68]
end Go.Proofs.S90
