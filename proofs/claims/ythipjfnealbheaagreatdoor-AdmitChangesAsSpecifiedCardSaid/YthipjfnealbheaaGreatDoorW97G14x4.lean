/-
  Texts in their order (plain law). No condition.
-/
import Derived.Test.YthipjfnealbheaaGreatDoorEvD
import Derived.Test.YthipjfnealbheaaGreatDoorEvY
set_option linter.all false
open Bool renaming and_eq_true->wB,or_eq_true->wC,false_eq_true->wD
open List renaming pairwise_cons->wE,mem_singleton->wF,eraseIdx_eq_take_drop_succ->wG,filter_cons->wH,mem_append->wJ,getElem?_eq_getElem->wK,getElem_of_mem->wL,getElem_modify->wM,filter_eq_self->wN,getElem_mem->wO,map_cons->wP
open Option renaming map_eq_some_iff->wQ,some.injEq->wR,map_some->wS,bind_some->wT
open Prod renaming mk.injEq->wU
namespace Go.Bl
open Go
def lt (a b:List UInt8):Bool:=Op.bytesLess a b
theorem z85 (a:List UInt8):lt a []=false:=by cases a<;>rfl
theorem zpb (a b:UInt8)(x y:List UInt8):lt (a::x) (b::y)=(decide (a<b)||(a==b&&lt x y)):=rfl
theorem irrefl :∀a,lt a a=false
 | []=>rfl
 | a::x=>by
   rw[zpb,irrefl x,Bool.and_false,Bool.or_false,decide_eq_false_iff_not]
   exact UInt8.lt_irrefl a
theorem trans :∀{a b c:List UInt8},lt a b=true->lt b c=true->lt a c=true
 | _,[],_,h,_=>by rw[z85]at h;cases h
 | _,_::_,[],_,h=>by rw[z85]at h;cases h
 | [],_::_,_::_,_,_=>rfl
 | a::x,b::y,c::z,h,h'=>by
   rw[zpb,wC,decide_eq_true_eq,wB,beq_iff_eq]at h h' ⊢
   rcases h with h|⟨rfl,h⟩
   . rcases h' with h'|⟨rfl,h'⟩
     . exact .inl (UInt8.lt_trans h h')
     . exact .inl h
   . rcases h' with h'|⟨rfl,h'⟩
     . exact .inl h'
     . exact .inr ⟨rfl,trans h h'⟩
theorem tri :∀a b:List UInt8,lt a b=true\/a=b\/lt b a=true
 | [],[]=>.inr (.inl rfl)
 | [],_::_=>.inl rfl
 | _::_,[]=>.inr (.inr rfl)
 | a::x,b::y=>by
   rw[zpb,zpb,wC,decide_eq_true_eq,wB,beq_iff_eq,wC,decide_eq_true_eq,wB,beq_iff_eq]
   have ht:a<b\/a=b\/b<a:=by
    rcases Nat.lt_trichotomy a.toNat b.toNat with h|h|h
    . exact .inl h
    . exact .inr (.inl (UInt8.toNat_inj.1 h))
    . exact .inr (.inr h)
   rcases ht with h|rfl|h
   . exact .inl (.inl h)
   . rcases tri x y with h|rfl|h
     . exact .inl (.inr ⟨rfl,h⟩)
     . exact .inr (.inl rfl)
     . exact .inr (.inr (.inr ⟨rfl,h⟩))
   . exact .inr (.inr (.inl h))
theorem asymm {a b:List UInt8}(h:lt a b=true):lt b a=false:=by
 cases h':lt b a
 . rfl
 . have:=trans h h';rw[irrefl]at this;cases this
theorem ne {a b:List UInt8}(h:lt a b=true):a≠b:=by
 rintro rfl;rw[irrefl]at h;cases h
def cmp (a b:List UInt8):Int:=if lt a b=true then -1 else if lt b a=true then 1 else 0
theorem cmp_lt {a b:List UInt8}:cmp a b<0↔lt a b=true:=by
 unfold cmp
 split
 . simp_all
 . split<;>simp_all
theorem cmp_eq {a b:List UInt8}:cmp a b=0↔a=b:=by
 unfold cmp
 constructor
 . intro h
   split at h
   . simp at h
   . split at h
     . simp at h
     . rename_i h1 h2
       rcases tri a b with h3|h3|h3
       . exact absurd h3 h1
       . exact h3
       . exact absurd h3 h2
 . rintro rfl
   simp[irrefl]
end Go.Bl
namespace Go.Mp
open Go Go.Ev
abbrev i64 (n:Int):AV:=.int .i64 n
def esT (m:List (Int×Int×Nat)):List (AV×AV×Nat):=m.map fun e=>(i64 e.1,i64 e.2.1,e.2.2)
theorem esT_length (m:List (Int×Int×Nat)):(esT m).length=m.length:=by simp[esT]
def fI (t:Int):List (Int×Int×Nat)->Option (Nat×Int)
 | []=>none
 | e::r=>if t=e.1 then some (0,e.2.1)else(fI t r).map fun p=>(p.1+1,p.2)
theorem find_esT (t:Int):∀m:List (Int×Int×Nat),zdn (i64 t) (esT m)=some ((fI t m).map fun p=>(p.1,i64 p.2))
 | []=>rfl
 | e::r=>by
   have ih:=find_esT t r
   simp only[esT,wP,zdn,zkp,if_pos trivial,wT,fI]
   by_cases h:t=e.1
   . simp[h]
   . rw[show(t==e.1)=false from beq_eq_false_iff_ne.2 h,if_neg h]
     simp only[esT]at ih
     simp only[wD,if_false,ih,wS]
     cases fI t r<;>simp
theorem fI_some {t:Int}:∀{m:List (Int×Int×Nat)} {j:Nat} {s:Int},fI t m=some (j,s)->∃b,m[j]? =some (t,s,b)
 | [],_,_,h=>by simp[fI]at h
 | e::r,j,s,h=>by
   simp only[fI]at h
   split at h
   . rename_i he
     simp only[wR,wU]at h
     obtain⟨rfl,rfl⟩:=h
     exact⟨e.2.2,by simp[he]⟩
   . simp only[wQ,wU]at h
     obtain⟨⟨a,b⟩,h1,rfl,rfl⟩:=h
     obtain⟨c,hc⟩:=fI_some h1
     exact⟨c,by simpa using hc⟩
theorem fI_none {t:Int}:∀{m:List (Int×Int×Nat)},fI t m=none↔∀e∈m,e.1≠t
 | []=>by simp[fI]
 | e::r=>by
   have ih:=@fI_none t r
   simp only[fI]
   split
   . rename_i he
     simp[he]
   . rename_i he
     simp only[Option.map_eq_none_iff,ih,List.mem_cons,forall_eq_or_imp]
     exact⟨fun h=>⟨fun e=>he e.symm,h⟩,fun h=>h.2⟩
def addT (t z:Int):List (Int×Int×Nat)->Nat->List (Int×Int×Nat)
 | [],n=>[(t,z,n)]
 | e::r,n=>if t=e.1 then(e.1,e.2.1+z,e.2.2)::r else e::addT t z r (n+1)
def Brn (m:List (Int×Int×Nat))(n:Nat):Prop:=∀i e,m[i]? =some e->e.2.2=n+i
theorem Brn.tail {e:Int×Int×Nat}{r:List (Int×Int×Nat)}{n:Nat}(h:Brn (e::r) n):Brn r (n+1):=fun i x hx=>by
 have:=h (i+1) x (by simpa using hx)
 omega
theorem addT_none {t z:Int}:∀{m:List (Int×Int×Nat)} {n:Nat},fI t m=none->addT t z m n=m++[(t,z,n+m.length)]
 | [],n,_=>rfl
 | e::r,n,h=>by
   simp only[fI]at h
   split at h
   . cases h
   . rename_i he
     rw[addT,if_neg he,addT_none (by simpa using h)]
     simp;omega
theorem addT_some {t z:Int}:∀{m:List (Int×Int×Nat)} {n j:Nat} {s:Int},fI t m=some (j,s)->addT t z m n=m.modify j fun e=>(e.1,s+z,e.2.2)
 | [],n,j,s,h=>by simp[fI]at h
 | e::r,n,j,s,h=>by
   simp only[fI]at h
   rw[addT]
   split at h
   . rename_i he
     simp only[wR,wU]at h
     obtain⟨rfl,rfl⟩:=h
     rw[if_pos he];simp
   . rename_i he
     simp only[wQ,wU]at h
     obtain⟨⟨a,b⟩,h1,rfl,rfl⟩:=h
     rw[if_neg he,addT_some h1];simp
theorem addT_brn {t z:Int}:∀{m:List (Int×Int×Nat)} {n:Nat},Brn m n->Brn (addT t z m n) n
 | [],n,_=>fun i e he=>by
   match i,he with
   | 0,he=>simp[addT]at he;rw[<-he];rfl
   | i+1,he=>simp[addT]at he
 | e::r,n,h=>by
   rw[addT]
   split
   . intro i x hx
     match i,hx with
     | 0,hx =>
       simp at hx
       have:=h 0 e (by simp)
       rw[<-hx];exact this
     | i+1,hx=>exact h (i+1) x (by simpa using hx)
   . intro i x hx
     match i,hx with
     | 0,hx=>exact h 0 x (by simpa using hx)
     | i+1,hx =>
       have:=addT_brn (t:=t) (z:=z) h.tail i x (by simpa using hx)
       omega
theorem bornE_esT {m:List (Int×Int×Nat)}(h:Brn m 0){j:Nat}(hj:j<m.length):zmr (esT m) j=j:=by
 have:=h j m[j] (wK hj)
 simp[zmr,esT,wK hj,this]
theorem fI_lt {t:Int}{m:List (Int×Int×Nat)}{j:Nat}{s:Int}(h:fI t m=some (j,s)):j<m.length:=by
 obtain⟨b,hb⟩:=fI_some h
 exact(List.getElem?_eq_some_iff.1 hb).1
def gT (t:Int)(m:List (Int×Int×Nat)):Int:=((fI t m).map (·.2)).getD 0
theorem gT_add (t z q:Int):∀(m:List (Int×Int×Nat)) (n:Nat),gT q (addT t z m n)=gT q m+if q=t then z else 0
 | [],n=>by
   by_cases h:q=t
   . simp[gT,addT,fI,h]
   . simp[gT,addT,fI,h]
 | e::r,n=>by
   have ih:=gT_add t z q r (n+1)
   unfold gT at ih ⊢
   rw[addT]
   by_cases h:t=e.1
   . rw[if_pos h]
     simp only[fI]
     by_cases hq:q=e.1
     . simp[hq,h]
     . have:q≠t:=fun x=>hq (x.trans h)
       simp[hq,this]
   . rw[if_neg h]
     simp only[fI]
     by_cases hq:q=e.1
     . have:q≠t:=fun x=>h (x.symm.trans hq)
       simp[hq]
       rw[if_neg (fun x=>h x.symm),Int.add_zero]
     . simp only[hq,if_false]
       revert ih
       cases fI q (addT t z r (n+1))<;>cases fI q r<;>simp
theorem fI_add (t z q:Int)(m:List (Int×Int×Nat))(n:Nat):fI q (addT t z m n)=none↔fI q m=none/\q≠t:=by
 cases h:fI t m with
 | none =>
   rw[addT_none h,fI_none,fI_none]
   constructor
   . intro H
     exact⟨fun e he=>H e (by simp[he]),fun x=>H _ (wJ.2 (.inr (wF.2 rfl))) x.symm⟩
   . rintro ⟨h1,h2⟩ e he
     rcases wJ.1 he with he|he
     . exact h1 e he
     . rw[wF.1 he];exact fun x=>h2 x.symm
 | some p =>
   obtain⟨j,s⟩:=p
   have hj:=fI_lt h
   obtain⟨b,hb⟩:=fI_some h
   rw[addT_some h,fI_none,fI_none]
   constructor
   . intro H
     have H':∀e∈m,e.1≠q:=fun e he=>by
      obtain⟨i,hi,rfl⟩:=wL he
      have:=H ((m.modify j fun e=>(e.1,s+z,e.2.2))[i]'(by simpa using hi)) (wO _)
      rw[wM]at this
      split at this<;>exact this
     exact⟨H',fun x=>H' _ (List.mem_of_getElem? hb) x.symm⟩
   . rintro ⟨h1,h2⟩ e he
     obtain⟨i,hi,rfl⟩:=wL he
     rw[wM]
     have:=h1 _ (wO (by simpa using hi))
     split<;>exact this
def Dis (m:List (Int×Int×Nat)):Prop:=m.Pairwise fun a b=>a.1≠b.1
theorem Dis.add {t z:Int}:∀{m:List (Int×Int×Nat)} {n:Nat},Dis m->Dis (addT t z m n)
 | [],n,_=>by simp[Dis,addT]
 | e::r,n,h=>by
   unfold Dis at h ⊢
   rw[wE]at h
   rw[addT]
   split
   . rw[wE];exact h
   . rename_i he
     rw[wE]
     refine⟨fun x hx=> ?_,Dis.add (m:=r) h.2⟩
     have:fI e.1 (addT t z r (n+1))=none:=(fI_add t z e.1 r (n+1)).2 ⟨fI_none.2 fun y hy=>fun q=>h.1 y hy q.symm,fun q=>he q.symm⟩
     exact fun q=>fI_none.1 this x hx q.symm
theorem zke {t s:Int}:∀{m:List (Int×Int×Nat)} {j:Nat},Dis m->fI t m=some (j,s)->m.eraseIdx j=m.filter fun e=>decide (e.1≠t)
 | [],_,_,h=>by simp[fI]at h
 | e::r,j,hd,h=>by
   unfold Dis at hd
   rw[wE]at hd
   simp only[fI]at h
   split at h
   . rename_i he
     simp only[wR,wU]at h
     obtain⟨rfl,_⟩:=h
     rw[List.eraseIdx_cons_zero,wH,if_neg (by simp[he])]
     symm
     rw[wN]
     intro x hx
     simp only[decide_eq_true_eq]
     exact fun q=>hd.1 x hx (he.symm.trans q.symm)
   . rename_i he
     simp only[wQ,wU]at h
     obtain⟨⟨a,b⟩,h1,rfl,rfl⟩:=h
     rw[List.eraseIdx_cons_succ,wH,if_pos (by simp;exact fun q=>he q.symm),zke hd.2 h1]
def delT (t:Int)(m:List (Int×Int×Nat)):List (Int×Int×Nat):=m.filter fun e=>decide (e.1≠t)
theorem z3t {t:Int}{m:List (Int×Int×Nat)}(h:fI t m=none):delT t m=m:=by
 rw[delT,wN]
 intro x hx
 simpa using fI_none.1 h x hx
theorem delE_esT {t:Int}{m:List (Int×Int×Nat)}(hd:Dis m):delE (esT m) ((fI t m).map fun p=>(p.1,i64 p.2))=esT (delT t m):=by
 cases h:fI t m with
 | none=>rw[z3t h];rfl
 | some p =>
   obtain⟨j,s⟩:=p
   simp only[wS,delE]
   rw[delT,<-zke hd h]
   unfold esT
   rw[wG,wG,List.map_append,List.map_take,List.map_drop]
theorem Dis.del {t:Int}{m:List (Int×Int×Nat)}(h:Dis m):Dis (delT t m):=List.Pairwise.filter _ h
theorem gT_del {t q:Int}(h:q≠t):∀m:List (Int×Int×Nat),gT q (delT t m)=gT q m
 | []=>rfl
 | e::r=>by
   have ih:=gT_del h r
   unfold gT at ih ⊢
   unfold delT at ih ⊢
   rw[wH]
   by_cases he:e.1=t
   . rw[if_neg (by simp[he])]
     simp only[fI]
     rw[if_neg (fun x=>h (x.trans he))]
     rw[ih]
     cases fI q r<;>rfl
   . rw[if_pos (by simp[he])]
     simp only[fI]
     by_cases hq:q=e.1
     . simp[hq]
     . simp only[hq,if_false]
       revert ih
       cases fI q (List.filter (fun e=>decide (e.1≠t)) r)<;>cases fI q r<;>simp
def esN (m:List (List UInt8×Int×Nat)):List (AV×AV×Nat):=m.map fun e=>(.str e.1,i64 e.2.1,e.2.2)
theorem esN_app (m:List (List UInt8×Int×Nat))(n:List UInt8)(v:Int)(c:Nat):esN m++[(.str n,i64 v,c)]=esN (m++[(n,v,c)]):=by simp[esN]
def fN (t:List UInt8):List (List UInt8×Int×Nat)->Option (Nat×Int)
 | []=>none
 | e::r=>if t=e.1 then some (0,e.2.1)else(fN t r).map fun p=>(p.1+1,p.2)
theorem find_esN (t:List UInt8):∀m:List (List UInt8×Int×Nat),zdn (.str t) (esN m)=some ((fN t m).map fun p=>(p.1,i64 p.2))
 | []=>rfl
 | e::r=>by
   have ih:=find_esN t r
   simp only[esN,wP,zdn,zkp,wT,fN]
   by_cases h:t=e.1
   . simp[h]
   . rw[show(t==e.1)=false from beq_eq_false_iff_ne.2 h,if_neg h]
     simp only[esN]at ih
     simp only[wD,if_false,ih,wS]
     cases fN t r<;>simp
theorem fN_some {t:List UInt8}:∀{m:List (List UInt8×Int×Nat)} {j:Nat} {s:Int},fN t m=some (j,s)->∃e∈m,e.1=t/\e.2.1=s
 | [],_,_,h=>by simp[fN]at h
 | e::r,j,s,h=>by
   simp only[fN]at h
   split at h
   . rename_i he
     simp only[wR,wU]at h
     exact⟨e,by simp,he.symm,h.2⟩
   . simp only[wQ,wU]at h
     obtain⟨⟨a,b⟩,h1,rfl,rfl⟩:=h
     obtain⟨e',h2,h3⟩:=fN_some h1
     exact⟨e',by simp[h2],h3⟩
def MOk (f:List UInt8->Int)(m:List (List UInt8×Int×Nat)):Prop:=∀e∈m,e.2.1=f e.1
def ask (f:List UInt8->Int)(t:List UInt8)(s:List (List UInt8×Int×Nat)×Nat):List (List UInt8×Int×Nat)×Nat :=
 match fN t s.1 with
 | some _=>s
 | none=>(s.1++[(t,f t,s.2)],s.2+1)
theorem MOk.ask {f:List UInt8->Int}{t:List UInt8}{s:List (List UInt8×Int×Nat)×Nat}(h:MOk f s.1):MOk f (ask f t s).1:=by
 unfold Mp.ask
 split
 . exact h
 . intro e he
   rcases wJ.1 he with he|he
   . exact h e he
   . rw[wF.1 he]
end Go.Mp
