/-
  For the evaluator's user: loops that may end early, and rules whose side conditions are linear. No condition.
-/
import Derived.Test.YtcddalfeicoedaaGreatDoorEvS
import Derived.Test.YtcddalfeicoedaaGreatDoorEvCall2
set_option linter.all false
open Nat renaming le_refl->wA,not_lt_zero->wB,sub_self->wC,not_lt->wD
open Option renaming bind_some->wE,map_some->wF,bind->wG
namespace Go.Ev
open Go
noncomputable def fstN (p:Nat->Prop):Nat->Nat
 | 0=>0
 | n+1=>by classical exact if fstN p n<n then fstN p n else if p n then n+1 else n
theorem ziv (p:Nat->Prop):∀N,fstN p N<=N/\(∀i,i<fstN p N->p i)/\(fstN p N<N->¬p (fstN p N))
 | 0=>⟨wA _,fun i h=>absurd h (wB _),fun h=>absurd h (wB _)⟩
 | n+1=>by
   obtain⟨h1,h2,h3⟩:=ziv p n
   rw[fstN]
   split
   . rename_i h;exact⟨by omega,h2,fun _=>h3 h⟩
   . rename_i h
     have e:fstN p n=n:=by omega
     rw[e]at h2
     split
     . rename_i hp;exact⟨by omega,fun i hi=>by by_cases hi':i=n;exact hi'▸hp;exact h2 i (by omega),fun h=>by omega⟩
     . rename_i hp;exact⟨by omega,h2,fun _=>hp⟩
theorem zuo {f:St->Option (Ex×St)}{ks:List Kp}(S:Nat->St)(N:Nat)(p:Nat->Prop){st:St}(hN:N<LF)(h0:zc3 ks st=some (S 0))
  (hs:∀i,i<N->p i->zbm ks (f (S i))=some (S (i+1))) (hx:∀i,i<N->¬p i->isEx (f (S i))=true) (he:isEx (f (S N))=true) :
  iter f ks LF st=f (S (fstN p N)):=by
 obtain⟨h1,h2,h3⟩:=ziv p N
 refine zam S (fstN p N) (by omega) h0 (fun i hi=>hs i (by omega) (h2 i hi)) ?_
 by_cases h:fstN p N<N
 . exact hx _ h (h3 h)
 . have:fstN p N=N:=by omega
   rw[this];exact he
theorem w64 {a:Int}(h:-9223372036854775808<=a/\a<=9223372036854775807):IntKind.wrap .i64 a=a:=zay h.1 h.2
theorem z6p (a b:Nat):((a+b:Nat):Int)=(a:Int)+(b:Int):=rfl
end Go.Ev
namespace Go.Ev
theorem qke {a b:Int}(h:a=b):(a==b)=true:=by simp[h]
theorem qkf {a b:Int}(h:a<b\/b<a):(a==b)=false:=beq_eq_false_iff_ne.2 (by omega)
theorem qkc {a b:Int}(h:a<b\/b<a):(a != b)=true:=bne_iff_ne.2 (by omega)
theorem qkd {a b:Int}(h:a=b):(a != b)=false:=by simp[h]
end Go.Ev
namespace Go.Ev
theorem qcq {a b:Int}(h:0<=a/\0<=b):(a+b).toNat=a.toNat+b.toNat:=by omega
theorem qcp {a b:Int}(h:0<=a/\0<=b):(a*b).toNat=a.toNat * b.toNat:=Int.toNat_mul h.1 h.2
theorem qcn {a b:Int}(h:0<=b):(a-b).toNat=a.toNat-b.toNat:=by omega
theorem qco :(1:Int).toNat=1:=rfl
theorem z74 :(0:Int).toNat=0:=rfl
end Go.Ev
namespace Go.Ev
theorem qix {a b:Nat}(h:a<b):(a<b)=True:=eq_true h
theorem qiy {a b:Nat}(h:b<=a):(a<b)=False:=eq_false (by omega)
theorem qi1 {a b:Nat}(h:a<=b):(a<=b)=True:=eq_true h
theorem qi2 {a b:Nat}(h:b<a):(a<=b)=False:=eq_false (by omega)
theorem qiz {a b:Int}(h:a<b):(a<b)=True:=eq_true h
theorem qi0 {a b:Int}(h:b<=a):(a<b)=False:=eq_false (by omega)
theorem qi3 {a b:Int}(h:a<=b):(a<=b)=True:=eq_true h
theorem qi4 {a b:Int}(h:b<a):(a<=b)=False:=eq_false (by omega)
theorem qj2 {a b:Nat}(h:a=b):(a=b)=True:=eq_true h
theorem qj3 {a b:Nat}(h:a<b\/b<a):(a=b)=False:=eq_false (by omega)
theorem qj4 {a b:Int}(h:a=b):(a=b)=True:=eq_true h
theorem qj5 {a b:Int}(h:a<b\/b<a):(a=b)=False:=eq_false (by omega)
end Go.Ev
namespace Go.Ev
open Go
theorem z4e {f:St->Option (Ex×St)}{ks:List Kp}(I:Nat->St->Prop)(N:Nat){s0:St}(hN:N<LF)(hI:I 0 s0)
  (hs:∀i s,i<N->I i s->∃s',zbm ks (f s)=some s'/\I (i+1) s') (he:∀s,I N s->isEx (f s)=true) :
  ∃s,I N s/\∀st,zc3 ks st=some s0->iter f ks LF st=f s:=by
 have key:∀(d i:Nat) (s0:St),i+d=N->I i s0->∃s,I N s/\∀n st,d<n->zc3 ks st=some s0->iter f ks n st=f s:=by
  intro d
  induction d with
  | zero =>
    intro i s0 hi hI
    have:i=N:=by omega
    subst this
    refine⟨s0,hI,fun n st hn hc=> ?_⟩
    obtain⟨n,rfl⟩:∃m,n=m+1:=⟨n-1,by omega⟩
    have hx:=he s0 hI
    cases hf:f s0 with
    | none=>rw[hf]at hx;cases hx
    | some r =>
      obtain⟨e,out⟩:=r
      exact zkp hc hf (by rw[hf]at hx;cases e<;>simp_all[isEx])
  | succ d ih =>
    intro i s0 hi hI
    obtain⟨s',h1,h2⟩:=hs i s0 (by omega) hI
    unfold zbm at h1
    split at h1
    . rename_i st2 hf
      obtain⟨s,hIs,hit⟩:=ih (i+1) s' (by omega) h2
      refine⟨s,hIs,fun n st hn hc=> ?_⟩
      obtain⟨n,rfl⟩:∃m,n=m+1:=⟨n-1,by omega⟩
      rw[zl2 hc hf]
      exact hit n st2 (by omega) h1
    . cases h1
 obtain⟨s,h1,h2⟩:=key N 0 s0 (by omega) hI
 exact⟨s,h1,fun st hc=>h2 LF st hN hc⟩
end Go.Ev
namespace Go.Ev
open Go
theorem xx :(∀a b:Int,0<=a/\0<=b->(a+b).toNat=a.toNat+b.toNat)/\(∀a b:Int,0<=a/\0<=b->(a*b).toNat=a.toNat * b.toNat)/\(∀a b:Int,0<=b->(a-b).toNat=a.toNat-b.toNat) /\
  (1:Int).toNat=1/\(0:Int).toNat=0/\(∀a:Int,-9223372036854775808<=a/\a<=9223372036854775807->IntKind.wrap .i64 a=a) /\
  (∀a b:Nat,a<b->(a<b)=True)/\(∀a b:Nat,b<=a->(a<b)=False)/\(∀a b:Nat,a<=b->(a<=b)=True)/\(∀a b:Nat,b<a->(a<=b)=False) /\
  (∀a b:Int,a<b->(a<b)=True)/\(∀a b:Int,b<=a->(a<b)=False)/\(∀a b:Int,a<=b->(a<=b)=True)/\(∀a b:Int,b<a->(a<=b)=False) /\
  (∀a b:Nat,a=b->(a=b)=True)/\(∀a b:Nat,a<b\/b<a->(a=b)=False)/\(∀a b:Int,a=b->(a=b)=True)/\(∀a b:Int,a<b\/b<a->(a=b)=False) /\
  (∀a b:Int,a=b->(a==b)=true)/\(∀a b:Int,a<b\/b<a->(a==b)=false)/\(∀a b:Int,a<b\/b<a->(a != b)=true)/\(∀a b:Int,a=b->(a != b)=false) /\
  (∀a b:Nat,((a+b:Nat):Int)=(a:Int)+(b:Int)) :=
 ⟨fun _ _=>qcq,fun _ _=>qcp,fun _ _=>qcn,qco,z74,fun _=>w64,fun _ _=>qix,fun _ _=>qiy,fun _ _=>qi1,fun _ _=>qi2,
   fun _ _=>qiz,fun _ _=>qi0,fun _ _=>qi3,fun _ _=>qi4,fun _ _=>qj2,fun _ _=>qj3,fun _ _=>qj4,fun _ _=>qj5,fun _ _=>qke,fun _ _=>qkf,fun _ _=>qkc,fun _ _=>qkd,fun _ _=>z6p _ _⟩
end Go.Ev
namespace Go.Ev
open Go
def symK :Bool->Option AV->AV->Option AV
 | true,r,_=>r
 | false,_,y=>some y
theorem qcv {r:Option AV}{y:AV}:symK true r y=r:=rfl
theorem qcw {r:Option AV}{y:AV}:symK false r y=some y:=rfl
section
variable {gl :Gl} {cl:Cl} {st:St}
theorem zz9 {t:Bool}{blk:Its}{a b:Opd}:iteS gl cl true t blk a b st=symK t (iteC gl a (zcs gl cl blk st)) (b.val gl st.fr):=by cases t<;>rfl
theorem z0a {t:Bool}{blk:Its}{a b:Opd}:iteS gl cl false t blk a b st=symK (!t) (iteC gl b (zcs gl cl blk st)) (a.val gl st.fr):=by cases t<;>rfl
theorem zwt {d:Option Nat}{m:MOp}{w:Bool}{l:List FO}:zgr gl cl d m w l st (.tup [])=zb3 gl cl l (st.upd d (.tup []) []):=rfl
end
theorem z21 {t x:Bool}:symK t (some (.bool x)) (.bool false)=some (.bool (t&&x)):=by cases t<;>rfl
theorem z78 {t x:Bool}:symK (!t) (some (.bool x)) (.bool true)=some (.bool (t||x)):=by cases t<;>rfl
attribute [go_sem] zwt zz9 z0a qcv qcw z21 z78 cond_true cond_false Bool.false_and Bool.and_false
theorem zz8 {α:Type}{f:St->Option (Ex×St)}{ks:List Kp}(S:α->St)(Inv:α->Prop)(μ:α->Nat)(next:α->α)(go:α->Bool){a0:α}(hN:μ a0<LF)(hI:Inv a0)
  (hs:∀a,Inv a->go a=true->zbm ks (f (S a))=some (S (next a))/\Inv (next a)/\μ (next a)<μ a) (he:∀a,Inv a->go a=false->isEx (f (S a))=true) :
  ∃a,Inv a/\go a=false/\∀st,zc3 ks st=some (S a0)->iter f ks LF st=f (S a):=by
 have key:∀(m n:Nat) (a:α),μ a<=m->m<n->Inv a->∃a',Inv a'/\go a'=false/\∀st,zc3 ks st=some (S a)->iter f ks n st=f (S a'):=by
  intro m
  induction m with
  | zero =>
    intro n a hm hn hi
    obtain⟨n,rfl⟩:∃k,n=k+1:=⟨n-1,by omega⟩
    cases hg:go a with
    | true=>obtain⟨_,_,h3⟩:=hs a hi hg;omega
    | false =>
      refine⟨a,hi,hg,fun st hc=> ?_⟩
      have hx:=he a hi hg
      cases hf:f (S a)with
      | none=>rw[hf]at hx;cases hx
      | some r =>
        obtain⟨e,out⟩:=r
        exact zkp hc hf (by rw[hf]at hx;cases e<;>simp_all[isEx])
  | succ m ih =>
    intro n a hm hn hi
    obtain⟨n,rfl⟩:∃k,n=k+1:=⟨n-1,by omega⟩
    cases hg:go a with
    | true =>
      obtain⟨h1,h2,h3⟩:=hs a hi hg
      unfold zbm at h1
      split at h1
      . rename_i st2 hf
        obtain⟨a',g1,g2,g3⟩:=ih n (next a) (by omega) (by omega) h2
        exact⟨a',g1,g2,fun st hc=>(zl2 hc hf).trans (g3 st2 h1)⟩
      . cases h1
    | false =>
      refine⟨a,hi,hg,fun st hc=> ?_⟩
      have hx:=he a hi hg
      cases hf:f (S a)with
      | none=>rw[hf]at hx;cases hx
      | some r =>
        obtain⟨e,out⟩:=r
        exact zkp hc hf (by rw[hf]at hx;cases e<;>simp_all[isEx])
 exact key (μ a0) LF a0 (wA _) hN hI
def out1 (t:Nat)(r:Option (Ex×St)):Option (Ex×AV):=r.map fun r=>(r.1,r.2.fr.get t)
theorem zzm {t:Nat}{e:Ex}{st:St}:out1 t (some (e,st))=some (e,st.fr.get t):=rfl
theorem zeu {t:Nat}{r:Option (Ex×St)}{v:AV}(h:out1 t r=some (.ret,v)):∃st,r=some (.ret,st)/\st.fr.get t=v:=by
 obtain _|⟨e,st⟩:=r
 . cases h
 . simp only[out1,wF,Option.some.injEq,Prod.mk.injEq]at h;exact⟨st,by rw[h.1],h.2⟩
attribute [go_sem] zzm
end Go.Ev
namespace Go.Ev
open Go
def zbd (gl:Gl)(cl:Cl)(need:List Nat):Nat->List (Nat×List Nat)->List FO->St->Option (St×List (Nat×List Nat))
 | _,acc,[],st=>some (st,acc)
 | i,acc,o::l,st =>
   match o.g with
   | none=>(zad gl cl st o.d o.m).bind fun r=>zbd gl cl need (i+1) (if need.contains i then(i,zbg gl st o.m)::acc else acc) l (st.upd o.d r.1 r.2)
   | some (c,want) =>
     match st.fr.get c with
     | .bool t=>if t=want then(zad gl cl st o.d o.m).bind fun r=>zbd gl cl need (i+1) (if need.contains i then(i,zbg gl st o.m)::acc else acc) l (st.upd o.d r.1 r.2)else zbd gl cl need (i+1) acc l (st.upd o.d (.tup []) [])
     | .tup []=>zbd gl cl need (i+1) acc l (st.upd o.d (.tup []) [])
     | _=>none
def lk :List (Nat×List Nat)->Nat->List Nat
 | [],_=>[]
 | p::r,j=>if p.1=j then p.2 else lk r j
def zmr :List (Nat×Nat)->List Nat
 | []=>[]
 | p::r=>p.1::p.2::zmr r
theorem zq2 :∀{prs:List (Nat×Nat)} {p:Nat×Nat},p∈prs->p.1∈zmr prs/\p.2∈zmr prs
 | _::r,p,h=>by
   rcases List.mem_cons.1 h with rfl|h
   . simp[zmr]
   . have:=zq2 h;simp[zmr,this]
def Nt (need:List Nat)(i:Nat)(acc:List (Nat×List Nat))(ks:List (List Nat))(acc':List (Nat×List Nat)):Prop :=
 ∀j,need.contains j=true->lk acc' j=if i<=j/\lk acc j=[]then ks.getD (j-i) []else lk acc j
variable {gl :Gl} {cl:Cl} {st:St}
theorem zph {need:List Nat}:∀(l:List FO) (i:Nat) (acc:List (Nat×List Nat)) (st:St),(∀j,i<=j->lk acc j=[]) ->
  match zbs gl cl l st,zbd gl cl need i acc l st with
  | some (s,ks),some (s',acc')=>s=s'/\Nt need i acc ks acc'
  | none,none=>True
  | _,_=>False
 | [],i,acc,st,h=>by
   simp only[zbs,zbd]
   refine⟨trivial,fun j hj=> ?_⟩
   split
   . rename_i h2;simp[h2.2]
   . rfl
 | o::l,i,acc,st,h=>by
   obtain⟨d,m,g⟩:=o
   have step:∀(kk:List Nat) (st':St),match (zbs gl cl l st').map (fun q=>(q.1,kk::q.2)),zbd gl cl need (i+1) (if need.contains i then(i,kk)::acc else acc) l st' with
     | some (s,ks),some (s',acc')=>s=s'/\Nt need i acc ks acc'
     | none,none=>True
     | _,_=>False:=fun kk st'=>by
    have ih:=zph (need:=need) l (i+1) (if need.contains i then(i,kk)::acc else acc) st' (fun j hj=>by
     split
     . rw[lk,if_neg (show ¬i=j by omega)];exact h j (by omega)
     . exact h j (by omega))
    revert ih
    cases zbs gl cl l st' with
    | none=>cases zbd gl cl need (i+1) (if need.contains i then(i,kk)::acc else acc) l st'<;>exact id
    | some q =>
      cases zbd gl cl need (i+1) (if need.contains i then(i,kk)::acc else acc) l st' with
      | none=>exact id
      | some q' =>
        rintro ⟨h1,h2⟩
        refine⟨h1,fun j hj=> ?_⟩
        rw[h2 j hj]
        by_cases hij:i=j
        . subst hij
          rw[if_neg (by omega),hj,if_pos rfl,lk,if_pos rfl,if_pos ⟨wA _,h i (wA _)⟩,wC];rfl
        . have e:lk (if need.contains i then(i,kk)::acc else acc) j=lk acc j:=by
           split
           . rw[lk,if_neg hij]
           . rfl
          rw[e]
          by_cases h3:i<=j
          . have h4:=h j h3
            rw[if_pos ⟨by omega,h4⟩,if_pos ⟨h3,h4⟩,show j-i=(j-(i+1))+1 by omega];rfl
          . rw[if_neg (by omega),if_neg (by omega)]
   have skip:∀(st':St),match (zbs gl cl l st').map (fun q=>(q.1,([]:List Nat)::q.2)),zbd gl cl need (i+1) acc l st' with
     | some (s,ks),some (s',acc')=>s=s'/\Nt need i acc ks acc'
     | none,none=>True
     | _,_=>False:=fun st'=>by
    have ih:=zph (need:=need) l (i+1) acc st' (fun j hj=>h j (by omega))
    revert ih
    cases zbs gl cl l st' with
    | none=>cases zbd gl cl need (i+1) acc l st'<;>exact id
    | some q =>
      cases zbd gl cl need (i+1) acc l st' with
      | none=>exact id
      | some q' =>
        rintro ⟨h1,h2⟩
        refine⟨h1,fun j hj=> ?_⟩
        rw[h2 j hj]
        by_cases hij:i=j
        . subst hij
          have h4:=h i (wA _)
          rw[if_neg (by omega),if_pos ⟨wA _,h4⟩,wC];exact h4
        . by_cases h3:i<=j
          . have h4:=h j h3
            rw[if_pos ⟨by omega,h4⟩,if_pos ⟨h3,h4⟩,show j-i=(j-(i+1))+1 by omega];rfl
          . rw[if_neg (by omega),if_neg (by omega)]
   cases g with
   | none =>
     simp only[zbs,zbd]
     cases zad gl cl st d m with
     | none=>trivial
     | some r=>exact step _ _
   | some p =>
     obtain⟨c,want⟩:=p
     simp only[zbs,zbd]
     cases st.fr.get c with
     | bool t =>
       by_cases ht:t=want
       . simp only[ht,if_true]
         cases zad gl cl st d m with
         | none=>trivial
         | some r=>exact step _ _
       . simp only[ht,if_false];exact skip _
     | tup r=>cases r with
       | nil=>exact skip _
       | cons=>trivial
     | _=>trivial
def zxl (acc:List (Nat×List Nat)):List (Nat×Nat)->Bool
 | []=>true
 | p::r=>disj (lk acc p.1) (lk acc p.2)&&zxl acc r
def z1q (prs:List (Nat×Nat)):Option (St×List (Nat×List Nat))->Option (Ex×St)
 | some (st,acc)=>if zxl acc prs then some (.norm,st)else none
 | none=>none
def znk (gl:Gl)(cl:Cl)(need:List Nat)(i:Nat)(acc:List (Nat×List Nat))(d:Option Nat)(m:MOp)(l:List FO)(st:St):Option (AV×Hp)->Option (St×List (Nat×List Nat))
 | some (v,us)=>zbd gl cl need (i+1) (if need.contains i then(i,zbg gl st m)::acc else acc) l (st.upd d v us)
 | none=>none
def zd2 (gl:Gl)(cl:Cl)(need:List Nat)(i:Nat)(acc:List (Nat×List Nat))(d:Option Nat)(m:MOp)(w:Bool)(l:List FO)(st:St):AV->Option (St×List (Nat×List Nat))
 | .bool t=>if t=w then znk gl cl need i acc d m l st (zad gl cl st d m)else zbd gl cl need (i+1) acc l (st.upd d (.tup []) [])
 | .tup []=>zbd gl cl need (i+1) acc l (st.upd d (.tup []) [])
 | _=>none
theorem zva {acc:List (Nat×List Nat)}{ks:List (List Nat)}{need:List Nat}(h:Nt need 0 [] ks acc):∀prs:List (Nat×Nat),(∀p∈prs,p.1∈need/\p.2∈need) ->
  zxl acc prs=prs.all fun p=>disj (ks.getD p.1 []) (ks.getD p.2 [])
 | [],_=>rfl
 | p::r,hp=>by
   obtain⟨h1,h2⟩:=hp p (by simp)
   have e1:=h p.1 (by simpa using h1)
   have e2:=h p.2 (by simpa using h2)
   rw[if_pos ⟨Nat.zero_le _,rfl⟩,Nat.sub_zero]at e1 e2
   rw[zxl,List.all_cons,e1,e2,zva h r fun q hq=>hp q (by simp[hq])]
theorem z1j {l:List FO}{p:Nat×Nat}{prs:List (Nat×Nat)}:evC gl cl (.draw l (p::prs)) st=z1q (p::prs) (zbd gl cl (zmr (p::prs)) 0 [] l st):=by
 rw[evC]
 have h:=zph (gl:=gl) (cl:=cl) (need:=zmr (p::prs)) l 0 [] st (fun _ _=>rfl)
 revert h
 cases zbs gl cl l st with
 | none=>cases zbd gl cl (zmr (p::prs)) 0 [] l st<;>simp[z1q]
 | some q =>
   cases zbd gl cl (zmr (p::prs)) 0 [] l st with
   | none=>exact False.elim
   | some q' =>
     rintro ⟨h1,h2⟩
     simp only[wE,z1q,zva h2 _ fun x hx=>zq2 hx,h1]
section
variable {need :List Nat} {i:Nat} {acc:List (Nat×List Nat)} {d:Option Nat} {m:MOp} {l:List FO}
theorem zs5 :zbd gl cl need i acc [] st=some (st,acc):=by rw[zbd]
theorem zxg :zbd gl cl need i acc (⟨d,m,none⟩::l) st=znk gl cl need i acc d m l st (zad gl cl st d m):=by
 rw[zbd];rcases zad gl cl st d m with _|⟨_,_⟩<;>rfl
theorem zpm {c:Nat}{w:Bool}:zbd gl cl need i acc (⟨d,m,some (c,w)⟩::l) st=zd2 gl cl need i acc d m w l st (st.fr.get c):=by
 rw[zbd]
 simp only
 generalize st.fr.get c=v
 cases v with
 | bool t =>
   simp only[zd2]
   by_cases h:t=w
   . simp only[h,if_true];rcases zad gl cl st d m with _|⟨_,_⟩<;>rfl
   . simp only[h,if_false]
 | tup l=>cases l<;>rfl
 | _=>rfl
theorem zs2 {v:AV}{us:Hp}:znk gl cl need i acc d m l st (some (v,us))=zbd gl cl need (i+1) (if need.contains i then(i,zbg gl st m)::acc else acc) l (st.upd d v us):=by rw[znk]
theorem zwp :zd2 gl cl need i acc d m true l st (.bool true)=znk gl cl need i acc d m l st (zad gl cl st d m):=by rw[zd2,if_pos rfl]
theorem zws :zd2 gl cl need i acc d m false l st (.bool false)=znk gl cl need i acc d m l st (zad gl cl st d m):=by rw[zd2,if_pos rfl]
theorem zwq :zd2 gl cl need i acc d m true l st (.bool false)=zbd gl cl need (i+1) acc l (st.upd d (.tup []) []):=by rw[zd2,if_neg (by decide)]
theorem zwr :zd2 gl cl need i acc d m false l st (.bool true)=zbd gl cl need (i+1) acc l (st.upd d (.tup []) []):=by rw[zd2,if_neg (by decide)]
theorem zsz {w:Bool}:zd2 gl cl need i acc d m w l st (.tup [])=zbd gl cl need (i+1) acc l (st.upd d (.tup []) []):=by rw[zd2]
theorem zxj {prs:List (Nat×Nat)}:z1q prs (some (st,acc))=if zxl acc prs then some (.norm,st)else none:=by rw[z1q]
end
theorem qd7 {j:Nat}:lk [] j=[]:=by rw[lk]
theorem z99 {p:Nat×List Nat}{r:List (Nat×List Nat)}{j:Nat}:lk (p::r) j=if p.1=j then p.2 else lk r j:=by rw[lk]
theorem z6e {b:List Nat}:disj [] b=true:=rfl
theorem z1t {a:Nat}{l b:List Nat}:disj (a::l) b=(!b.contains a&&disj l b):=rfl
attribute [go_sem] z1j zs5 zxg zpm zs2 zwp zws zwq zwr zsz zxj qd7 z99 zxl z6e z1t zmr zbg MOp.opds Option.toList
end Go.Ev
namespace Go.Ev
open Go
variable {gl :Gl} {cl:Cl} {st:St}
def rfE (fr:Fr)(hp:Hp)(kd:Nat):Option OB->Option (Ex×St)
 | some (.lp _ _ .ready)=>some (.norm,{fr,hp:=(kd,.dead)::hp})
 | some (.lp _ _ (.done e))=>some (e,{fr,hp:=(kd,.dead)::hp})
 | _=>none
def rfK (fr:Fr)(kd:Nat)(hp:Hp):Option (AV×Hp)->Option (Ex×St)
 | some (_,us)=>rfE fr (us++hp) kd (Hp.get (us++hp) kd)
 | none=>none
theorem zxi {rid:Nat}{g:Opd}{slots:List Nat}{kd dc:Nat}:evC gl cl (.rangeF rid g slots kd dc) st=evRf cl rid slots kd dc st (g.val gl st.fr):=by rw[evC]
def zfl (fr:Fr):List Nat->List AV
 | []=>[]
 | i::l=>fr.get i::zfl fr l
theorem zjj {fr:Fr}:∀{l:List Nat},l.map fr.get=zfl fr l
 | []=>rfl
 | i::l=>by rw[List.map_cons,zfl,zjj]
theorem qfk {f:Nat}(h:f<2000000):cvF f=f:=if_pos h
theorem qfl {f:Nat}(h:2000000<=f):cvF f=f-2000000:=if_neg (wD.2 h)
theorem qfm {f:Nat}{a c:List AV}(h:f<2000000):cvA f a c=a++c:=if_pos h
theorem qfn {f:Nat}{a c:List AV}(h:2000000<=f):cvA f a c=c++a:=if_neg (wD.2 h)
theorem qa4 {rid:Nat}{slots:List Nat}{kd dc h:Nat}{caps:List AV}:evRf cl rid slots kd dc st (.fn h caps) =
  if(st.hp.get kd).isNone&&decide (kd<SHK)&&decide (h<RB)then rfK st.fr kd ((kd,.lp rid (zfl st.fr slots) .ready)::st.hp) (zbi cl ((kd,.lp rid (zfl st.fr slots) .ready)::st.hp) dc h (.yld kd::caps) (zax ((kd,.lp rid (zfl st.fr slots) .ready)::st.hp) (kd::AV.refss caps)))else none:=by
 rw[evRf,zjj]
 split
 . cases zbi cl ((kd,.lp rid (zfl st.fr slots) .ready)::st.hp) dc h (.yld kd::caps) (zax ((kd,.lp rid (zfl st.fr slots) .ready)::st.hp) (kd::AV.refss caps))with
   | none=>rfl
   | some r=>simp only[wE,rfK,z89,rfE];rfl
 . rfl
theorem z3i {fr:Fr}{kd:Nat}{hp:Hp}{r:AV}{us:Hp}:rfK fr kd hp (some (r,us))=rfE fr (us++hp) kd (Hp.get (us++hp) kd):=by rw[rfK]
theorem zy8 {fr:Fr}{hp:Hp}{kd rid:Nat}{vals:List AV}:rfE fr hp kd (some (.lp rid vals .ready))=some (.norm,{fr,hp:=(kd,.dead)::hp}):=by rw[rfE]
theorem z3j {fr:Fr}{hp:Hp}{kd rid:Nat}{vals:List AV}{e:Ex}:rfE fr hp kd (some (.lp rid vals (.done e)))=some (e,{fr,hp:=(kd,.dead)::hp}):=by rw[rfE]
def drK (cl:Cl)(hp:Hp)(d q:Nat)(args:List AV):Option OB->Option (AV×Hp)
 | some (.lp rid _ .ready)=>zbi cl hp d (RB+rid) args (zax hp (q::AV.refss args))
 | _=>none
theorem z1s {hp:Hp}{d q:Nat}{args:List AV}:zf6 cl hp d q args .imp=drK cl hp d q args (hp.get q):=by
 simp only[zf6]
 rcases hp.get q with _|_|_|_|⟨_,_,_|_|_⟩<;>rfl
theorem z1r {hp:Hp}{d q:Nat}{args:List AV}{rid:Nat}{vals:List AV}:drK cl hp d q args (some (.lp rid vals .ready))=zbi cl hp d (RB+rid) args (zax hp (q::AV.refss args)):=by rw[drK]
def rndC (e:Ex):Option (List AV×Hp×List OB)->Option (AV×Hp×List OB)
 | some (_,hp,es)=>some (.bool (decide (e= .norm)),hp,es)
 | none=>none
def zop (ks:List Nat)(e:Ex)(st:St):Option OB->Option (AV×Hp×List OB)
 | some (.lp r v .busy)=>rndC e (zfg {fr:=st.fr,hp:=(SHK,.lp r v (if e= .norm then .ready else .done e))::st.hp} ks [] (zch {fr:=st.fr,hp:=(SHK,.lp r v (if e= .norm then .ready else .done e))::st.hp} ks []))
 | _=>none
def rndB (ks:List Nat):Option (Ex×St)->Option (AV×Hp×List OB)
 | some (e,st)=>zop ks e st (Hp.get st.hp SHK)
 | none=>none
def zy6 (gl:Gl)(cl:Cl)(body:MC)(ks:List Nat)(st:St):Option OB->Option (AV×Hp×List OB)
 | some (.lp r v .ready)=>rndB ks (evC gl cl body {fr:=st.fr,hp:=(SHK,.lp r v .busy)::st.hp})
 | _=>none
def rndA (gl:Gl)(cl:Cl)(body:MC)(ks:List Nat):Option (Ex×St)->Option (AV×Hp×List OB)
 | some (.norm,st)=>zy6 gl cl body ks st (Hp.get st.hp SHK)
 | _=>none
theorem z52 {params slots:List Nat}{as body:MC}{args:List AV}{q rid:Nat}{vals:List AV}{r:Hp}:zpl params slots as body gl cl args ((q,.lp rid vals .ready)::r) =
  if decide (q=SHK)&&decide (args.length=params.length)&&zgm params&&mcLt as&&mcLt body&& !zcl as&& !zcl body then
   rndA gl cl body (q::zcc r) (evC gl cl as {fr:=frAt params args++frAt slots vals,hp:=(q,.lp rid vals .ready)::r})else none:=by
 rw[zpl]
 simp only
 split
 . cases evC gl cl as {fr:=frAt params args++frAt slots vals,hp:=(q,.lp rid vals .ready)::r}with
   | none=>rfl
   | some a =>
     obtain⟨e,sa⟩:=a
     cases e with
     | norm =>
       simp only[wE,rndA]
       rcases hk:Hp.get sa.hp SHK with _|_|_|_|⟨r1,v1,_|_|_⟩<;>simp only[zy6]
       cases evC gl cl body {fr:=sa.fr,hp:=(SHK,.lp r1 v1 .busy)::sa.hp}with
       | none=>rfl
       | some b =>
         obtain⟨eb,sb⟩:=b
         simp only[wE,rndB]
         rcases hk2:Hp.get sb.hp SHK with _|_|_|_|⟨r2,v2,_|_|_⟩<;>simp only[zop,zcc]
         rcases zfg _ _ _ _ with _|⟨_,_,_⟩<;>rfl
     | exit id=>rfl
     | ret=>rfl
 . rfl
theorem zy5 {body:MC}{ks:List Nat}:rndA gl cl body ks (some (.norm,st))=zy6 gl cl body ks st (Hp.get st.hp SHK):=by rw[rndA]
theorem zr8 {body:MC}{ks:List Nat}{r:Nat}{v:List AV}:zy6 gl cl body ks st (some (.lp r v .ready))=rndB ks (evC gl cl body {fr:=st.fr,hp:=(SHK,.lp r v .busy)::st.hp}):=by rw[zy6]
theorem zy3 {ks:List Nat}{e:Ex}:rndB ks (some (e,st))=zop ks e st (Hp.get st.hp SHK):=by rw[rndB]
theorem zv7 {ks:List Nat}{r:Nat}{v:List AV}:zop ks .norm st (some (.lp r v .busy))=rndC .norm (zfg {fr:=st.fr,hp:=(SHK,.lp r v .ready)::st.hp} ks [] (zch {fr:=st.fr,hp:=(SHK,.lp r v .ready)::st.hp} ks [])):=by simp only[zop,if_true]
theorem zy4 {ks:List Nat}{r:Nat}{v:List AV}:zop ks .ret st (some (.lp r v .busy))=rndC .ret (zfg {fr:=st.fr,hp:=(SHK,.lp r v (.done .ret))::st.hp} ks [] (zch {fr:=st.fr,hp:=(SHK,.lp r v (.done .ret))::st.hp} ks [])):=by
 simp only[zop,if_neg (show ¬Ex.ret= .norm by decide)]
theorem zv8 {ks:List Nat}{r i:Nat}{v:List AV}:zop ks (.exit i) st (some (.lp r v .busy))=rndC (.exit i) (zfg {fr:=st.fr,hp:=(SHK,.lp r v (.done (.exit i)))::st.hp} ks [] (zch {fr:=st.fr,hp:=(SHK,.lp r v (.done (.exit i)))::st.hp} ks [])):=by
 simp only[zop,if_neg (show ¬Ex.exit i= .norm by simp)]
theorem zy1 {l:List AV}{hp:Hp}{es:List OB}:rndC .norm (some (l,hp,es))=some (.bool true,hp,es):=by simp[rndC]
theorem z3e {l:List AV}{hp:Hp}{es:List OB}:rndC .ret (some (l,hp,es))=some (.bool false,hp,es):=by simp[rndC]
theorem zy2 {i:Nat}{l:List AV}{hp:Hp}{es:List OB}:rndC (.exit i) (some (l,hp,es))=some (.bool false,hp,es):=by simp[rndC]
attribute [go_sem] zxi qa4 zfl z3i zy8 z3j z1s z1r ziy qfk qfl qfm qfn z52 zy5 zr8 zy3 zv7 zy4 zv8 zy1 z3e zy2 frAt mcLt zq8 ltO ksLt zcl
end Go.Ev
namespace Go.Ev
open Go
variable {gl :Gl} {cl:Cl} {st:St} {D:DfD}
def seqL (gl:Gl)(cl:Cl)(l:List MC):Option (Ex×St)->Option (Ex×St)
 | some (.norm,st)=>zjm gl cl l st
 | r=>r
theorem z1w :zjm gl cl [] st=some (.norm,st):=rfl
theorem zxm {m:MC}{l:List MC}:zjm gl cl (m::l) st=seqL gl cl l (evC gl cl m st):=by
 rw[zjm]
 rcases evC gl cl m st with _|⟨_|_|_,_⟩<;>rfl
theorem zym {l:List MC}:seqL gl cl l (some (.norm,st))=zjm gl cl l st:=rfl
theorem z26 {l:List MC}:seqL gl cl l (some (.ret,st))=some (.ret,st):=rfl
theorem zyn {l:List MC}{i:Nat}:seqL gl cl l (some (.exit i,st))=some (.exit i,st):=rfl
theorem zkq {res:List ResD}{hk:List Nat}:zit res hk st=genK st hk (zbc st res):=by
 unfold zit
 rcases zbc st res with _|rs
 . rfl
 . rw[zma,wE]
   rcases zfg st hk rs (zch st hk rs)with _|⟨_,_,_⟩<;>rfl
def dfC (D:DfD)(gl:Gl)(cl:Cl):Cl:=fun _ as h=>zs7 D gl cl (as.take D.slots.length) (as.drop D.slots.length) h
theorem qfi {f:Nat}{as:List AV}{h:Hp}:dfC D gl cl f as h=zs7 D gl cl (as.take D.slots.length) (as.drop D.slots.length) h:=rfl
def dfZ (hk:List Nat)(hp:Hp):Option (AV×Hp)->Option (AV×Hp×List OB)
 | some (v,us)=>genK {fr:=[],hp:=us++hp} hk (some [v])
 | none=>none
theorem zvb {hk:List Nat}{hp us:Hp}{v:AV}:dfZ hk hp (some (v,us))=genK {fr:=[],hp:=us++hp} hk (some [v]):=rfl
def dfF (D:DfD)(gl:Gl)(cl:Cl)(hk:List Nat):Option St->Option (AV×Hp×List OB)
 | some st=>dfZ hk st.hp (zbi (dfC D gl cl) st.hp D.d D.fS (zfl st.fr D.slots++vals gl st.fr D.dargs) (zax st.hp (AV.refss (zfl st.fr D.slots++vals gl st.fr D.dargs))))
 | none=>none
theorem zvd {hk:List Nat}:dfF D gl cl hk (some st)=dfZ hk st.hp (zbi (dfC D gl cl) st.hp D.d D.fS (zfl st.fr D.slots++vals gl st.fr D.dargs) (zax st.hp (AV.refss (zfl st.fr D.slots++vals gl st.fr D.dargs)))):=rfl
def dfA (D:DfD)(gl:Gl)(cl:Cl)(hk:List Nat):Option (Ex×St)->Option (AV×Hp×List OB)
 | some (.norm,st)=>dfF D gl cl hk (zb3 gl cl D.fos st)
 | some (.ret,st)=>genK st hk (zbc st D.res)
 | _=>none
theorem zve {hk:List Nat}:dfA D gl cl hk (some (.norm,st))=dfF D gl cl hk (zb3 gl cl D.fos st):=rfl
theorem z1x {hk:List Nat}:dfA D gl cl hk (some (.ret,st))=genK st hk (zbc st D.res):=rfl
theorem qa7 (hok:dfOk D=true){args:List AV}{imps:Hp}:evDf D gl cl args imps=dfA D gl cl (zcc imps) (zjm gl cl D.mA {fr:=frOf 0 args,hp:=imps}):=by
 rw[evDf,if_pos hok]
 rcases zjm gl cl D.mA {fr:=frOf 0 args,hp:=imps}with _|⟨_|_|_,st⟩
 . rfl
 . rw[wE,zve,<-zjk]
   simp only
   rcases zbs gl cl D.fos st with _|⟨st1,_⟩
   . rfl
   . simp only[wE,wF,zvd,zjj]
     show wG (zbi (dfC D gl cl) _ _ _ _ _) _=_
     rcases zbi (dfC D gl cl) _ _ _ _ _ with _|⟨v,us⟩
     . rfl
     . rw[wE,zvb,zma]
       rcases zfg _ _ _ _ with _|⟨_,_,_⟩<;>rfl
 . rfl
 . rw[wE,z1x,<-zkq]
theorem z2d {tab:Nat->Option Fd}{n f:Nat}{args:List AV}{imps:Hp}{fd:Fd}(h:tab f=some fd)(hv:fd.giv=some (evDf D):=by rfl)(hok:dfOk D=true:=by rfl) :
  call gl tab (n+1) f args imps=dfA D gl (call gl tab n) (zcc imps) (zjm gl (call gl tab n) D.mA {fr:=frOf 0 args,hp:=imps}):=by
 rw[zku h hv,qa7 hok]
def dfS (D:DfD)(gl:Gl)(cl:Cl):Cl:=fun _ as h=>evFn gl cl D.fd as h
theorem qfh {f:Nat}{as:List AV}{h:Hp}:dfS D gl cl f as h=if zjg D.fd.pk&&mcLt D.fd.body then finG D.fd.res (zcc h) (evC gl cl D.fd.body {fr:=frOf 0 as,hp:=h})else evFn gl cl D.fd as h:=by
 unfold dfS
 split
 . rename_i hc
   rw[Bool.and_eq_true]at hc
   unfold evFn
   rw[if_pos hc.1,hc.2]
   simp only[Bool.not_true,Bool.false_eq_true,if_false]
   rcases evC gl cl D.fd.body {fr:=frOf 0 as,hp:=h}with _|⟨_|_|_,st⟩
   . rfl
   . rw[zrh,<-zkq];rfl
   . rfl
   . rw[zu2,<-zkq];rfl
 . rfl
def dfY (D:DfD)(fr:Fr)(hp:Hp)(hk:List Nat):Option (AV×Hp)->Option (AV×Hp×List OB)
 | some (_,us)=>genK {fr,hp:=us++hp} hk (zbc {fr,hp:=us++hp} D.res)
 | none=>none
theorem zvc {fr:Fr}{hp us:Hp}{hk:List Nat}{v:AV}:dfY D fr hp hk (some (v,us))=genK {fr,hp:=us++hp} hk (zbc {fr,hp:=us++hp} D.res):=rfl
def hasK (hp:Hp):List Nat->Bool
 | []=>true
 | k::l=>(hp.get k).isSome&&hasK hp l
theorem z4l {hp:Hp}:hasK hp []=true:=rfl
theorem zrb {hp:Hp}{k:Nat}{l:List Nat}:hasK hp (k::l)=((hp.get k).isSome&&hasK hp l):=rfl
theorem zuu {hp:Hp}:∀l:List Nat,(l.all fun k=>(hp.get k).isSome)=hasK hp l
 | []=>rfl
 | k::l=>by rw[List.all_cons,zuu l,zrb]
def dfE (D:DfD)(gl:Gl)(cl:Cl)(dv:List AV)(hk:List Nat)(st:St):Option (AV×Hp×List OB) :=
 if hasK st.hp hk then dfY D st.fr st.hp hk (zbi (dfS D gl cl) st.hp D.dd D.fS dv (zax st.hp (AV.refss dv)))else none
def dfB (D:DfD)(gl:Gl)(cl:Cl)(dv:List AV)(hk:List Nat):Option (Ex×St)->Option (AV×Hp×List OB)
 | some (.norm,st)=>dfE D gl cl dv hk st
 | some (.ret,st)=>dfE D gl cl dv hk st
 | _=>none
theorem z6h {dv:List AV}{hk:List Nat}:dfB D gl cl dv hk (some (.norm,st))=dfE D gl cl dv hk st:=rfl
theorem qbd {dv:List AV}{hk:List Nat}:dfB D gl cl dv hk (some (.ret,st))=dfE D gl cl dv hk st:=rfl
theorem z54 {vs dv:List AV}{hp0:Hp}:zs7 D gl cl vs dv hp0=dfB D gl cl dv (zcc hp0) (evC gl cl D.mB {fr:=frAt D.slots vs,hp:=hp0}):=by
 have key:∀st:St,(if(zcc hp0).all fun k=>(st.hp.get k).isSome then(zbi (fun _ as h=>evFn gl cl D.fd as h) st.hp D.dd D.fS dv (zax st.hp (AV.refss dv))).bind fun q=>zit D.res (zcc hp0) {fr:=st.fr,hp:=q.2++st.hp}else none)=dfE D gl cl dv (zcc hp0) st:=fun st=>by
  rw[zuu]
  unfold dfE
  congr 1
  show wG (zbi (dfS D gl cl) _ _ _ _ _) _=_
  rcases zbi (dfS D gl cl) _ _ _ _ _ with _|⟨_,_⟩
  . rfl
  . rw[wE,zvc,<-zkq]
 rw[zs7]
 rcases evC gl cl D.mB {fr:=frAt D.slots vs,hp:=hp0}with _|⟨_|_|_,st⟩
 . rfl
 . exact key st
 . rfl
 . exact key st
theorem zqw {hp hp':Hp}{j:Nat}{s sh:Sh}:zil hp hp' j (.lst true s []) (.own sh)=some (.sl (20000+j) [] 0 0,[.grow sh []]):=rfl
attribute [go_sem] zqw z1w zxm zym z26 zyn qfi zvb zvd zve z1x zvc dfE z4l zrb z6h qbd
end Go.Ev
