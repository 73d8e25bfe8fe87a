/-
  Chapter 16: shares and accounts; the functions that look at each of them once. No condition.
-/
import Derived.Test.YthipjfnealbheaaDoorW17
import Derived.Test.YthipjfnealbheaaDoorEvY
set_option linter.all false
namespace Go.Proofs.S17.Q
open Go Go.Ev Go.Proofs
variable {gl :Gl} {n:Nat}
abbrev i64 (n:Int):AV:=.int .i64 n
structure S2 where
 w:Int
 x:Int
structure A3 where
 t:Int
 w:Int
 u:Int
def sh (l:List S2):List AV:=l.map fun s=>.agg [i64 s.w,i64 s.x]
def ac (l:List A3):List AV:=l.map fun s=>.agg [i64 s.t,i64 s.w,i64 s.u]
def ns (l:List Int):List AV:=l.map i64
abbrev sS :Sh:=.st [.sc,.sc]
abbrev sA :Sh:=.st [.sc,.sc,.sc]
def sat (l:List S2)(i:Nat):S2:=l.getD i ⟨0,0⟩
def aat (l:List A3)(i:Nat):A3:=l.getD i ⟨0,0,0⟩
def nat (l:List Int)(i:Nat):Int:=l.getD i 0
theorem zbr (l:List S2):(sh l).length=l.length:=by simp[sh]
theorem zac (l:List A3):(ac l).length=l.length:=by simp[ac]
theorem ns_length (l:List Int):(ns l).length=l.length:=by simp[ns]
theorem z9h {l:List S2}{i:Nat}(h:i<l.length):(sh l)[i]? =some (.agg [i64 (sat l i).w,i64 (sat l i).x]):=by simp[sh,sat,h]
theorem zd7 {l:List A3}{i:Nat}(h:i<l.length):(ac l)[i]? =some (.agg [i64 (aat l i).t,i64 (aat l i).w,i64 (aat l i).u]):=by simp[ac,aat,h]
theorem ns_at {l:List Int}{i:Nat}(h:i<l.length):(ns l)[i]? =some (i64 (nat l i)):=by simp[ns,nat,h]
theorem qdt :sh []=[]:=rfl
theorem qdu (l:List S2)(s:S2):sh (l++[s])=sh l++[.agg [i64 s.w,i64 s.x]]:=by simp[sh]
theorem z9g (l:List S2)(v:AV):(sh l++[v]).take (l.length+1)=sh l++[v]:=by rw[<-zbr];exact List.take_of_length_le (by simp)
theorem z3q (l:List S2):(sh l).take l.length=sh l:=by rw[<-zbr];exact List.take_length
theorem zvl (l:List A3):(ac l).take l.length=ac l:=by rw[<-zac];exact List.take_length
def Mk {α:Type}(l:List α)(s m:Sh):Prop:=l=[]\/s=m
theorem Mk.eq {α:Type}{l:List α}{s m:Sh}(h:Mk l s m){i:Nat}(hi:i<l.length):s=m:=h.resolve_left (by rintro rfl;simp at hi)
theorem first_fail (p:Nat->Prop)(N:Nat):(∀i,i<N->p i)\/∃k,k<N/\(∀j,j<k->p j)/\¬p k:=by
 classical
 by_cases h:∀i,i<N->p i
 . exact .inl h
 . obtain⟨h1,h2,h3⟩:=zhf p N
   refine .inr ⟨fstN p N,?_⟩
   rcases Nat.lt_or_ge (fstN p N) N with h4|h4
   . exact⟨h4,h2,h3 h4⟩
   . exact absurd (fun i hi=>h2 i (by omega)) h
structure SOk (s:S2):Prop where
 w:1<=s.w/\s.w<=1048576
 x:0<=s.x/\s.x<=1099511627776
structure VS (l:List S2):Prop where
 n:l.length<=1000
 ok:∀i,i<l.length->SOk (sat l i)
end Go.Proofs.S17.Q
