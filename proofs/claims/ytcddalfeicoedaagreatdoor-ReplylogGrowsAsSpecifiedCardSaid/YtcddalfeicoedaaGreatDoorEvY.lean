/-
  For the evaluator's user: loops that may end early, and rules whose side conditions are linear. No condition.
-/
import Derived.Test.YtcddalfeicoedaaGreatDoorEvS
import Derived.Test.YtcddalfeicoedaaGreatDoorEvCall2
set_option linter.all false
open Nat renaming le_refl->wA,not_lt_zero->wB,sub_self->wC,not_lt->wD
open Option renaming bind_some->wE,map_some->wF,bind->wG
namespace Go.Ev
open Go
noncomputable def fstN (p:Nat->Prop):Nat->Nat
 | 0=>0
 | n+1=>by classical exact if fstN p n<n then fstN p n else if p n then n+1 else n
theorem zix (p:Nat->Prop):∀N,fstN p N<=N/\(∀i,i<fstN p N->p i)/\(fstN p N<N->¬p (fstN p N))
 | 0=>⟨wA _,fun i h=>absurd h (wB _),fun h=>absurd h (wB _)⟩
 | n+1=>by
   obtain⟨h1,h2,h3⟩:=zix p n
   rw[fstN]
   split
   . rename_i h;exact⟨by omega,h2,fun _=>h3 h⟩
   . rename_i h
     have e:fstN p n=n:=by omega
     rw[e]at h2
     split
     . rename_i hp;exact⟨by omega,fun i hi=>by by_cases hi':i=n;exact hi'▸hp;exact h2 i (by omega),fun h=>by omega⟩
     . rename_i hp;exact⟨by omega,h2,fun _=>hp⟩
theorem zu7 {f:St->Option (Ex×St)}{ks:List Kp}(S:Nat->St)(N:Nat)(p:Nat->Prop){st:St}(hN:N<LF)(h0:zda ks st=some (S 0))
  (hs:∀i,i<N->p i->zbd ks (f (S i))=some (S (i+1))) (hx:∀i,i<N->¬p i->isEx (f (S i))=true) (he:isEx (f (S N))=true) :
  iter f ks LF st=f (S (fstN p N)):=by
 obtain⟨h1,h2,h3⟩:=zix p N
 refine zag S (fstN p N) (by omega) h0 (fun i hi=>hs i (by omega) (h2 i hi)) ?_
 by_cases h:fstN p N<N
 . exact hx _ h (h3 h)
 . have:fstN p N=N:=by omega
   rw[this];exact he
theorem w64 {a:Int}(h:-9223372036854775808<=a/\a<=9223372036854775807):IntKind.wrap .i64 a=a:=zax h.1 h.2
theorem z7k (a b:Nat):((a+b:Nat):Int)=(a:Int)+(b:Int):=rfl
end Go.Ev
namespace Go.Ev
theorem qlw {a b:Int}(h:a=b):(a==b)=true:=by simp[h]
theorem qlx {a b:Int}(h:a<b\/b<a):(a==b)=false:=beq_eq_false_iff_ne.2 (by omega)
theorem qlu {a b:Int}(h:a<b\/b<a):(a != b)=true:=bne_iff_ne.2 (by omega)
theorem qlv {a b:Int}(h:a=b):(a != b)=false:=by simp[h]
end Go.Ev
namespace Go.Ev
theorem qdm {a b:Int}(h:0<=a/\0<=b):(a+b).toNat=a.toNat+b.toNat:=by omega
theorem qdl {a b:Int}(h:0<=a/\0<=b):(a*b).toNat=a.toNat * b.toNat:=Int.toNat_mul h.1 h.2
theorem qdj {a b:Int}(h:0<=b):(a-b).toNat=a.toNat-b.toNat:=by omega
theorem qdk :(1:Int).toNat=1:=rfl
theorem z80 :(0:Int).toNat=0:=rfl
end Go.Ev
namespace Go.Ev
theorem qj8 {a b:Nat}(h:a<b):(a<b)=True:=eq_true h
theorem qj9 {a b:Nat}(h:b<=a):(a<b)=False:=eq_false (by omega)
theorem qkc {a b:Nat}(h:a<=b):(a<=b)=True:=eq_true h
theorem qkd {a b:Nat}(h:b<a):(a<=b)=False:=eq_false (by omega)
theorem qka {a b:Int}(h:a<b):(a<b)=True:=eq_true h
theorem qkb {a b:Int}(h:b<=a):(a<b)=False:=eq_false (by omega)
theorem qke {a b:Int}(h:a<=b):(a<=b)=True:=eq_true h
theorem qkf {a b:Int}(h:b<a):(a<=b)=False:=eq_false (by omega)
theorem qlj {a b:Nat}(h:a=b):(a=b)=True:=eq_true h
theorem qlk {a b:Nat}(h:a<b\/b<a):(a=b)=False:=eq_false (by omega)
theorem qlm {a b:Int}(h:a=b):(a=b)=True:=eq_true h
theorem qln {a b:Int}(h:a<b\/b<a):(a=b)=False:=eq_false (by omega)
end Go.Ev
namespace Go.Ev
open Go
theorem z47 {f:St->Option (Ex×St)}{ks:List Kp}(I:Nat->St->Prop)(N:Nat){s0:St}(hN:N<LF)(hI:I 0 s0)
  (hs:∀i s,i<N->I i s->∃s',zbd ks (f s)=some s'/\I (i+1) s') (he:∀s,I N s->isEx (f s)=true) :
  ∃s,I N s/\∀st,zda ks st=some s0->iter f ks LF st=f s:=by
 have key:∀(d i:Nat) (s0:St),i+d=N->I i s0->∃s,I N s/\∀n st,d<n->zda ks st=some s0->iter f ks n st=f s:=by
  intro d
  induction d with
  | zero =>
    intro i s0 hi hI
    have:i=N:=by omega
    subst this
    refine⟨s0,hI,fun n st hn hc=> ?_⟩
    obtain⟨n,rfl⟩:∃m,n=m+1:=⟨n-1,by omega⟩
    have hx:=he s0 hI
    cases hf:f s0 with
    | none=>rw[hf]at hx;cases hx
    | some r =>
      obtain⟨e,out⟩:=r
      exact zkz hc hf (by rw[hf]at hx;cases e<;>simp_all[isEx])
  | succ d ih =>
    intro i s0 hi hI
    obtain⟨s',h1,h2⟩:=hs i s0 (by omega) hI
    unfold zbd at h1
    split at h1
    . rename_i st2 hf
      obtain⟨s,hIs,hit⟩:=ih (i+1) s' (by omega) h2
      refine⟨s,hIs,fun n st hn hc=> ?_⟩
      obtain⟨n,rfl⟩:∃m,n=m+1:=⟨n-1,by omega⟩
      rw[zme hc hf]
      exact hit n st2 (by omega) h1
    . cases h1
 obtain⟨s,h1,h2⟩:=key N 0 s0 (by omega) hI
 exact⟨s,h1,fun st hc=>h2 LF st hN hc⟩
end Go.Ev
namespace Go.Ev
open Go
theorem xx :(∀a b:Int,0<=a/\0<=b->(a+b).toNat=a.toNat+b.toNat)/\(∀a b:Int,0<=a/\0<=b->(a*b).toNat=a.toNat * b.toNat)/\(∀a b:Int,0<=b->(a-b).toNat=a.toNat-b.toNat) /\
  (1:Int).toNat=1/\(0:Int).toNat=0/\(∀a:Int,-9223372036854775808<=a/\a<=9223372036854775807->IntKind.wrap .i64 a=a) /\
  (∀a b:Nat,a<b->(a<b)=True)/\(∀a b:Nat,b<=a->(a<b)=False)/\(∀a b:Nat,a<=b->(a<=b)=True)/\(∀a b:Nat,b<a->(a<=b)=False) /\
  (∀a b:Int,a<b->(a<b)=True)/\(∀a b:Int,b<=a->(a<b)=False)/\(∀a b:Int,a<=b->(a<=b)=True)/\(∀a b:Int,b<a->(a<=b)=False) /\
  (∀a b:Nat,a=b->(a=b)=True)/\(∀a b:Nat,a<b\/b<a->(a=b)=False)/\(∀a b:Int,a=b->(a=b)=True)/\(∀a b:Int,a<b\/b<a->(a=b)=False) /\
  (∀a b:Int,a=b->(a==b)=true)/\(∀a b:Int,a<b\/b<a->(a==b)=false)/\(∀a b:Int,a<b\/b<a->(a != b)=true)/\(∀a b:Int,a=b->(a != b)=false) /\
  (∀a b:Nat,((a+b:Nat):Int)=(a:Int)+(b:Int)) :=
 ⟨fun _ _=>qdm,fun _ _=>qdl,fun _ _=>qdj,qdk,z80,fun _=>w64,fun _ _=>qj8,fun _ _=>qj9,fun _ _=>qkc,fun _ _=>qkd,
   fun _ _=>qka,fun _ _=>qkb,fun _ _=>qke,fun _ _=>qkf,fun _ _=>qlj,fun _ _=>qlk,fun _ _=>qlm,fun _ _=>qln,fun _ _=>qlw,fun _ _=>qlx,fun _ _=>qlu,fun _ _=>qlv,fun _ _=>z7k _ _⟩
end Go.Ev
namespace Go.Ev
open Go
def symK :Bool->Option AV->AV->Option AV
 | true,r,_=>r
 | false,_,y=>some y
theorem qdr {r:Option AV}{y:AV}:symK true r y=r:=rfl
theorem qds {r:Option AV}{y:AV}:symK false r y=some y:=rfl
section
variable {gl :Gl} {cl:Cl} {st:St}
theorem z0x {t:Bool}{blk:Its}{a b:Opd}:iteS gl cl true t blk a b st=symK t (iteC gl a (zcz gl cl blk st)) (b.val gl st.fr):=by cases t<;>rfl
theorem z0y {t:Bool}{blk:Its}{a b:Opd}:iteS gl cl false t blk a b st=symK (!t) (iteC gl b (zcz gl cl blk st)) (a.val gl st.fr):=by cases t<;>rfl
theorem zxe {d:Option Nat}{m:MOp}{w:Bool}{l:List FO}:zgv gl cl d m w l st (.tup [])=zb6 gl cl l (st.upd d (.tup []) []):=rfl
end
theorem z3k {t x:Bool}:symK t (some (.bool x)) (.bool false)=some (.bool (t&&x)):=by cases t<;>rfl
theorem z84 {t x:Bool}:symK (!t) (some (.bool x)) (.bool true)=some (.bool (t||x)):=by cases t<;>rfl
attribute [go_sem] zxe z0x z0y qdr qds z3k z84 cond_true cond_false Bool.false_and Bool.and_false
theorem zro {α:Type}{f:St->Option (Ex×St)}{ks:List Kp}(S:α->St)(Inv:α->Prop)(μ:α->Nat)(next:α->α)(go:α->Bool){a0:α}(hN:μ a0<LF)(hI:Inv a0)
  (hs:∀a,Inv a->go a=true->zbd ks (f (S a))=some (S (next a))/\Inv (next a)/\μ (next a)<μ a) (he:∀a,Inv a->go a=false->isEx (f (S a))=true) :
  ∃a,Inv a/\go a=false/\∀st,zda ks st=some (S a0)->iter f ks LF st=f (S a):=by
 have key:∀(m n:Nat) (a:α),μ a<=m->m<n->Inv a->∃a',Inv a'/\go a'=false/\∀st,zda ks st=some (S a)->iter f ks n st=f (S a'):=by
  intro m
  induction m with
  | zero =>
    intro n a hm hn hi
    obtain⟨n,rfl⟩:∃k,n=k+1:=⟨n-1,by omega⟩
    cases hg:go a with
    | true=>obtain⟨_,_,h3⟩:=hs a hi hg;omega
    | false =>
      refine⟨a,hi,hg,fun st hc=> ?_⟩
      have hx:=he a hi hg
      cases hf:f (S a)with
      | none=>rw[hf]at hx;cases hx
      | some r =>
        obtain⟨e,out⟩:=r
        exact zkz hc hf (by rw[hf]at hx;cases e<;>simp_all[isEx])
  | succ m ih =>
    intro n a hm hn hi
    obtain⟨n,rfl⟩:∃k,n=k+1:=⟨n-1,by omega⟩
    cases hg:go a with
    | true =>
      obtain⟨h1,h2,h3⟩:=hs a hi hg
      unfold zbd at h1
      split at h1
      . rename_i st2 hf
        obtain⟨a',g1,g2,g3⟩:=ih n (next a) (by omega) (by omega) h2
        exact⟨a',g1,g2,fun st hc=>(zme hc hf).trans (g3 st2 h1)⟩
      . cases h1
    | false =>
      refine⟨a,hi,hg,fun st hc=> ?_⟩
      have hx:=he a hi hg
      cases hf:f (S a)with
      | none=>rw[hf]at hx;cases hx
      | some r =>
        obtain⟨e,out⟩:=r
        exact zkz hc hf (by rw[hf]at hx;cases e<;>simp_all[isEx])
 exact key (μ a0) LF a0 (wA _) hN hI
def out1 (t:Nat)(r:Option (Ex×St)):Option (Ex×AV):=r.map fun r=>(r.1,r.2.fr.get t)
theorem z0b {t:Nat}{e:Ex}{st:St}:out1 t (some (e,st))=some (e,st.fr.get t):=rfl
theorem zcn {t:Nat}{r:Option (Ex×St)}{v:AV}(h:out1 t r=some (.ret,v)):∃st,r=some (.ret,st)/\st.fr.get t=v:=by
 obtain _|⟨e,st⟩:=r
 . cases h
 . simp only[out1,wF,Option.some.injEq,Prod.mk.injEq]at h;exact⟨st,by rw[h.1],h.2⟩
attribute [go_sem] z0b
end Go.Ev
namespace Go.Ev
open Go
def zbi (gl:Gl)(cl:Cl)(need:List Nat):Nat->List (Nat×List Nat)->List FO->St->Option (St×List (Nat×List Nat))
 | _,acc,[],st=>some (st,acc)
 | i,acc,o::l,st =>
   match o.g with
   | none=>(zae gl cl st o.d o.m).bind fun r=>zbi gl cl need (i+1) (if need.contains i then(i,zbl gl st o.m)::acc else acc) l (st.upd o.d r.1 r.2)
   | some (c,want) =>
     match st.fr.get c with
     | .bool t=>if t=want then(zae gl cl st o.d o.m).bind fun r=>zbi gl cl need (i+1) (if need.contains i then(i,zbl gl st o.m)::acc else acc) l (st.upd o.d r.1 r.2)else zbi gl cl need (i+1) acc l (st.upd o.d (.tup []) [])
     | .tup []=>zbi gl cl need (i+1) acc l (st.upd o.d (.tup []) [])
     | _=>none
def lk :List (Nat×List Nat)->Nat->List Nat
 | [],_=>[]
 | p::r,j=>if p.1=j then p.2 else lk r j
def zm2 :List (Nat×Nat)->List Nat
 | []=>[]
 | p::r=>p.1::p.2::zm2 r
theorem zri :∀{prs:List (Nat×Nat)} {p:Nat×Nat},p∈prs->p.1∈zm2 prs/\p.2∈zm2 prs
 | _::r,p,h=>by
   rcases List.mem_cons.1 h with rfl|h
   . simp[zm2]
   . have:=zri h;simp[zm2,this]
def Nt (need:List Nat)(i:Nat)(acc:List (Nat×List Nat))(ks:List (List Nat))(acc':List (Nat×List Nat)):Prop :=
 ∀j,need.contains j=true->lk acc' j=if i<=j/\lk acc j=[]then ks.getD (j-i) []else lk acc j
variable {gl :Gl} {cl:Cl} {st:St}
theorem zpr {need:List Nat}:∀(l:List FO) (i:Nat) (acc:List (Nat×List Nat)) (st:St),(∀j,i<=j->lk acc j=[]) ->
  match zbw gl cl l st,zbi gl cl need i acc l st with
  | some (s,ks),some (s',acc')=>s=s'/\Nt need i acc ks acc'
  | none,none=>True
  | _,_=>False
 | [],i,acc,st,h=>by
   simp only[zbw,zbi]
   refine⟨trivial,fun j hj=> ?_⟩
   split
   . rename_i h2;simp[h2.2]
   . rfl
 | o::l,i,acc,st,h=>by
   obtain⟨d,m,g⟩:=o
   have step:∀(kk:List Nat) (st':St),match (zbw gl cl l st').map (fun q=>(q.1,kk::q.2)),zbi gl cl need (i+1) (if need.contains i then(i,kk)::acc else acc) l st' with
     | some (s,ks),some (s',acc')=>s=s'/\Nt need i acc ks acc'
     | none,none=>True
     | _,_=>False:=fun kk st'=>by
    have ih:=zpr (need:=need) l (i+1) (if need.contains i then(i,kk)::acc else acc) st' (fun j hj=>by
     split
     . rw[lk,if_neg (show ¬i=j by omega)];exact h j (by omega)
     . exact h j (by omega))
    revert ih
    cases zbw gl cl l st' with
    | none=>cases zbi gl cl need (i+1) (if need.contains i then(i,kk)::acc else acc) l st'<;>exact id
    | some q =>
      cases zbi gl cl need (i+1) (if need.contains i then(i,kk)::acc else acc) l st' with
      | none=>exact id
      | some q' =>
        rintro ⟨h1,h2⟩
        refine⟨h1,fun j hj=> ?_⟩
        rw[h2 j hj]
        by_cases hij:i=j
        . subst hij
          rw[if_neg (by omega),hj,if_pos rfl,lk,if_pos rfl,if_pos ⟨wA _,h i (wA _)⟩,wC];rfl
        . have e:lk (if need.contains i then(i,kk)::acc else acc) j=lk acc j:=by
           split
           . rw[lk,if_neg hij]
           . rfl
          rw[e]
          by_cases h3:i<=j
          . have h4:=h j h3
            rw[if_pos ⟨by omega,h4⟩,if_pos ⟨h3,h4⟩,show j-i=(j-(i+1))+1 by omega];rfl
          . rw[if_neg (by omega),if_neg (by omega)]
   have skip:∀(st':St),match (zbw gl cl l st').map (fun q=>(q.1,([]:List Nat)::q.2)),zbi gl cl need (i+1) acc l st' with
     | some (s,ks),some (s',acc')=>s=s'/\Nt need i acc ks acc'
     | none,none=>True
     | _,_=>False:=fun st'=>by
    have ih:=zpr (need:=need) l (i+1) acc st' (fun j hj=>h j (by omega))
    revert ih
    cases zbw gl cl l st' with
    | none=>cases zbi gl cl need (i+1) acc l st'<;>exact id
    | some q =>
      cases zbi gl cl need (i+1) acc l st' with
      | none=>exact id
      | some q' =>
        rintro ⟨h1,h2⟩
        refine⟨h1,fun j hj=> ?_⟩
        rw[h2 j hj]
        by_cases hij:i=j
        . subst hij
          have h4:=h i (wA _)
          rw[if_neg (by omega),if_pos ⟨wA _,h4⟩,wC];exact h4
        . by_cases h3:i<=j
          . have h4:=h j h3
            rw[if_pos ⟨by omega,h4⟩,if_pos ⟨h3,h4⟩,show j-i=(j-(i+1))+1 by omega];rfl
          . rw[if_neg (by omega),if_neg (by omega)]
   cases g with
   | none =>
     simp only[zbw,zbi]
     cases zae gl cl st d m with
     | none=>trivial
     | some r=>exact step _ _
   | some p =>
     obtain⟨c,want⟩:=p
     simp only[zbw,zbi]
     cases st.fr.get c with
     | bool t =>
       by_cases ht:t=want
       . simp only[ht,if_true]
         cases zae gl cl st d m with
         | none=>trivial
         | some r=>exact step _ _
       . simp only[ht,if_false];exact skip _
     | tup r=>cases r with
       | nil=>exact skip _
       | cons=>trivial
     | _=>trivial
def zx7 (acc:List (Nat×List Nat)):List (Nat×Nat)->Bool
 | []=>true
 | p::r=>disj (lk acc p.1) (lk acc p.2)&&zx7 acc r
def z2f (prs:List (Nat×Nat)):Option (St×List (Nat×List Nat))->Option (Ex×St)
 | some (st,acc)=>if zx7 acc prs then some (.norm,st)else none
 | none=>none
def znv (gl:Gl)(cl:Cl)(need:List Nat)(i:Nat)(acc:List (Nat×List Nat))(d:Option Nat)(m:MOp)(l:List FO)(st:St):Option (AV×Hp)->Option (St×List (Nat×List Nat))
 | some (v,us)=>zbi gl cl need (i+1) (if need.contains i then(i,zbl gl st m)::acc else acc) l (st.upd d v us)
 | none=>none
def zd8 (gl:Gl)(cl:Cl)(need:List Nat)(i:Nat)(acc:List (Nat×List Nat))(d:Option Nat)(m:MOp)(w:Bool)(l:List FO)(st:St):AV->Option (St×List (Nat×List Nat))
 | .bool t=>if t=w then znv gl cl need i acc d m l st (zae gl cl st d m)else zbi gl cl need (i+1) acc l (st.upd d (.tup []) [])
 | .tup []=>zbi gl cl need (i+1) acc l (st.upd d (.tup []) [])
 | _=>none
theorem zvs {acc:List (Nat×List Nat)}{ks:List (List Nat)}{need:List Nat}(h:Nt need 0 [] ks acc):∀prs:List (Nat×Nat),(∀p∈prs,p.1∈need/\p.2∈need) ->
  zx7 acc prs=prs.all fun p=>disj (ks.getD p.1 []) (ks.getD p.2 [])
 | [],_=>rfl
 | p::r,hp=>by
   obtain⟨h1,h2⟩:=hp p (by simp)
   have e1:=h p.1 (by simpa using h1)
   have e2:=h p.2 (by simpa using h2)
   rw[if_pos ⟨Nat.zero_le _,rfl⟩,Nat.sub_zero]at e1 e2
   rw[zx7,List.all_cons,e1,e2,zvs h r fun q hq=>hp q (by simp[hq])]
theorem z18 {l:List FO}{p:Nat×Nat}{prs:List (Nat×Nat)}:evC gl cl (.draw l (p::prs)) st=z2f (p::prs) (zbi gl cl (zm2 (p::prs)) 0 [] l st):=by
 rw[evC]
 have h:=zpr (gl:=gl) (cl:=cl) (need:=zm2 (p::prs)) l 0 [] st (fun _ _=>rfl)
 revert h
 cases zbw gl cl l st with
 | none=>cases zbi gl cl (zm2 (p::prs)) 0 [] l st<;>simp[z2f]
 | some q =>
   cases zbi gl cl (zm2 (p::prs)) 0 [] l st with
   | none=>exact False.elim
   | some q' =>
     rintro ⟨h1,h2⟩
     simp only[wE,z2f,zvs h2 _ fun x hx=>zri hx,h1]
section
variable {need :List Nat} {i:Nat} {acc:List (Nat×List Nat)} {d:Option Nat} {m:MOp} {l:List FO}
theorem ztq :zbi gl cl need i acc [] st=some (st,acc):=by rw[zbi]
theorem zx2 :zbi gl cl need i acc (⟨d,m,none⟩::l) st=znv gl cl need i acc d m l st (zae gl cl st d m):=by
 rw[zbi];rcases zae gl cl st d m with _|⟨_,_⟩<;>rfl
theorem zpw {c:Nat}{w:Bool}:zbi gl cl need i acc (⟨d,m,some (c,w)⟩::l) st=zd8 gl cl need i acc d m w l st (st.fr.get c):=by
 rw[zbi]
 simp only
 generalize st.fr.get c=v
 cases v with
 | bool t =>
   simp only[zd8]
   by_cases h:t=w
   . simp only[h,if_true];rcases zae gl cl st d m with _|⟨_,_⟩<;>rfl
   . simp only[h,if_false]
 | tup l=>cases l<;>rfl
 | _=>rfl
theorem ztm {v:AV}{us:Hp}:znv gl cl need i acc d m l st (some (v,us))=zbi gl cl need (i+1) (if need.contains i then(i,zbl gl st m)::acc else acc) l (st.upd d v us):=by rw[znv]
theorem zxa :zd8 gl cl need i acc d m true l st (.bool true)=znv gl cl need i acc d m l st (zae gl cl st d m):=by rw[zd8,if_pos rfl]
theorem zxd :zd8 gl cl need i acc d m false l st (.bool false)=znv gl cl need i acc d m l st (zae gl cl st d m):=by rw[zd8,if_pos rfl]
theorem zxb :zd8 gl cl need i acc d m true l st (.bool false)=zbi gl cl need (i+1) acc l (st.upd d (.tup []) []):=by rw[zd8,if_neg (by decide)]
theorem zxc :zd8 gl cl need i acc d m false l st (.bool true)=zbi gl cl need (i+1) acc l (st.upd d (.tup []) []):=by rw[zd8,if_neg (by decide)]
theorem zth {w:Bool}:zd8 gl cl need i acc d m w l st (.tup [])=zbi gl cl need (i+1) acc l (st.upd d (.tup []) []):=by rw[zd8]
theorem zx5 {prs:List (Nat×Nat)}:z2f prs (some (st,acc))=if zx7 acc prs then some (.norm,st)else none:=by rw[z2f]
end
theorem qe3 {j:Nat}:lk [] j=[]:=by rw[lk]
theorem qa8 {p:Nat×List Nat}{r:List (Nat×List Nat)}{j:Nat}:lk (p::r) j=if p.1=j then p.2 else lk r j:=by rw[lk]
theorem z7a {b:List Nat}:disj [] b=true:=rfl
theorem z2i {a:Nat}{l b:List Nat}:disj (a::l) b=(!b.contains a&&disj l b):=rfl
attribute [go_sem] z18 ztq zx2 zpw ztm zxa zxd zxb zxc zth zx5 qe3 qa8 zx7 z7a z2i zm2 zbl MOp.opds Option.toList
end Go.Ev
namespace Go.Ev
open Go
variable {gl :Gl} {cl:Cl} {st:St}
def rfE (fr:Fr)(hp:Hp)(kd:Nat):Option OB->Option (Ex×St)
 | some (.lp _ _ .ready)=>some (.norm,{fr,hp:=(kd,.dead)::hp})
 | some (.lp _ _ (.done e))=>some (e,{fr,hp:=(kd,.dead)::hp})
 | _=>none
def rfK (fr:Fr)(kd:Nat)(hp:Hp):Option (AV×Hp)->Option (Ex×St)
 | some (_,us)=>rfE fr (us++hp) kd (Hp.get (us++hp) kd)
 | none=>none
theorem zx4 {rid:Nat}{g:Opd}{slots:List Nat}{kd dc:Nat}:evC gl cl (.rangeF rid g slots kd dc) st=evRf cl rid slots kd dc st (g.val gl st.fr):=by rw[evC]
def zfq (fr:Fr):List Nat->List AV
 | []=>[]
 | i::l=>fr.get i::zfq fr l
theorem zjp {fr:Fr}:∀{l:List Nat},l.map fr.get=zfq fr l
 | []=>rfl
 | i::l=>by rw[List.map_cons,zfq,zjp]
theorem qgk {f:Nat}(h:f<2000000):cvF f=f:=if_pos h
theorem qgl {f:Nat}(h:2000000<=f):cvF f=f-2000000:=if_neg (wD.2 h)
theorem qgm {f:Nat}{a c:List AV}(h:f<2000000):cvA f a c=a++c:=if_pos h
theorem qgn {f:Nat}{a c:List AV}(h:2000000<=f):cvA f a c=c++a:=if_neg (wD.2 h)
theorem qb4 {rid:Nat}{slots:List Nat}{kd dc h:Nat}{caps:List AV}:evRf cl rid slots kd dc st (.fn h caps) =
  if(st.hp.get kd).isNone&&decide (kd<SHK)&&decide (h<RB)then rfK st.fr kd ((kd,.lp rid (zfq st.fr slots) .ready)::st.hp) (zbo cl ((kd,.lp rid (zfq st.fr slots) .ready)::st.hp) dc h (.yld kd::caps) (za0 ((kd,.lp rid (zfq st.fr slots) .ready)::st.hp) (kd::AV.refss caps)))else none:=by
 rw[evRf,zjp]
 split
 . cases zbo cl ((kd,.lp rid (zfq st.fr slots) .ready)::st.hp) dc h (.yld kd::caps) (za0 ((kd,.lp rid (zfq st.fr slots) .ready)::st.hp) (kd::AV.refss caps))with
   | none=>rfl
   | some r=>simp only[wE,rfK,z98,rfE];rfl
 . rfl
theorem z37 {fr:Fr}{kd:Nat}{hp:Hp}{r:AV}{us:Hp}:rfK fr kd hp (some (r,us))=rfE fr (us++hp) kd (Hp.get (us++hp) kd):=by rw[rfK]
theorem zzx {fr:Fr}{hp:Hp}{kd rid:Nat}{vals:List AV}:rfE fr hp kd (some (.lp rid vals .ready))=some (.norm,{fr,hp:=(kd,.dead)::hp}):=by rw[rfE]
theorem z38 {fr:Fr}{hp:Hp}{kd rid:Nat}{vals:List AV}{e:Ex}:rfE fr hp kd (some (.lp rid vals (.done e)))=some (e,{fr,hp:=(kd,.dead)::hp}):=by rw[rfE]
def drK (cl:Cl)(hp:Hp)(d q:Nat)(args:List AV):Option OB->Option (AV×Hp)
 | some (.lp rid _ .ready)=>zbo cl hp d (RB+rid) args (za0 hp (q::AV.refss args))
 | _=>none
theorem z2h {hp:Hp}{d q:Nat}{args:List AV}:zga cl hp d q args .imp=drK cl hp d q args (hp.get q):=by
 simp only[zga]
 rcases hp.get q with _|_|_|_|⟨_,_,_|_|_⟩<;>rfl
theorem z2g {hp:Hp}{d q:Nat}{args:List AV}{rid:Nat}{vals:List AV}:drK cl hp d q args (some (.lp rid vals .ready))=zbo cl hp d (RB+rid) args (za0 hp (q::AV.refss args)):=by rw[drK]
def rndC (e:Ex):Option (List AV×Hp×List OB)->Option (AV×Hp×List OB)
 | some (_,hp,es)=>some (.bool (decide (e= .norm)),hp,es)
 | none=>none
def zow (ks:List Nat)(e:Ex)(st:St):Option OB->Option (AV×Hp×List OB)
 | some (.lp r v .busy)=>rndC e (zfl {fr:=st.fr,hp:=(SHK,.lp r v (if e= .norm then .ready else .done e))::st.hp} ks [] (zck {fr:=st.fr,hp:=(SHK,.lp r v (if e= .norm then .ready else .done e))::st.hp} ks []))
 | _=>none
def rndB (ks:List Nat):Option (Ex×St)->Option (AV×Hp×List OB)
 | some (e,st)=>zow ks e st (Hp.get st.hp SHK)
 | none=>none
def zzv (gl:Gl)(cl:Cl)(body:MC)(ks:List Nat)(st:St):Option OB->Option (AV×Hp×List OB)
 | some (.lp r v .ready)=>rndB ks (evC gl cl body {fr:=st.fr,hp:=(SHK,.lp r v .busy)::st.hp})
 | _=>none
def rndA (gl:Gl)(cl:Cl)(body:MC)(ks:List Nat):Option (Ex×St)->Option (AV×Hp×List OB)
 | some (.norm,st)=>zzv gl cl body ks st (Hp.get st.hp SHK)
 | _=>none
theorem z6y {params slots:List Nat}{as body:MC}{args:List AV}{q rid:Nat}{vals:List AV}{r:Hp}:zpv params slots as body gl cl args ((q,.lp rid vals .ready)::r) =
  if decide (q=SHK)&&decide (args.length=params.length)&&zgq params&&mcLt as&&mcLt body&& !zcr as&& !zcr body then
   rndA gl cl body (q::zcf r) (evC gl cl as {fr:=frAt params args++frAt slots vals,hp:=(q,.lp rid vals .ready)::r})else none:=by
 rw[zpv]
 simp only
 split
 . cases evC gl cl as {fr:=frAt params args++frAt slots vals,hp:=(q,.lp rid vals .ready)::r}with
   | none=>rfl
   | some a =>
     obtain⟨e,sa⟩:=a
     cases e with
     | norm =>
       simp only[wE,rndA]
       rcases hk:Hp.get sa.hp SHK with _|_|_|_|⟨r1,v1,_|_|_⟩<;>simp only[zzv]
       cases evC gl cl body {fr:=sa.fr,hp:=(SHK,.lp r1 v1 .busy)::sa.hp}with
       | none=>rfl
       | some b =>
         obtain⟨eb,sb⟩:=b
         simp only[wE,rndB]
         rcases hk2:Hp.get sb.hp SHK with _|_|_|_|⟨r2,v2,_|_|_⟩<;>simp only[zow,zcf]
         rcases zfl _ _ _ _ with _|⟨_,_,_⟩<;>rfl
     | exit id=>rfl
     | ret=>rfl
 . rfl
theorem zzu {body:MC}{ks:List Nat}:rndA gl cl body ks (some (.norm,st))=zzv gl cl body ks st (Hp.get st.hp SHK):=by rw[rndA]
theorem zso {body:MC}{ks:List Nat}{r:Nat}{v:List AV}:zzv gl cl body ks st (some (.lp r v .ready))=rndB ks (evC gl cl body {fr:=st.fr,hp:=(SHK,.lp r v .busy)::st.hp}):=by rw[zzv]
theorem zzs {ks:List Nat}{e:Ex}:rndB ks (some (e,st))=zow ks e st (Hp.get st.hp SHK):=by rw[rndB]
theorem zws {ks:List Nat}{r:Nat}{v:List AV}:zow ks .norm st (some (.lp r v .busy))=rndC .norm (zfl {fr:=st.fr,hp:=(SHK,.lp r v .ready)::st.hp} ks [] (zck {fr:=st.fr,hp:=(SHK,.lp r v .ready)::st.hp} ks [])):=by simp only[zow,if_true]
theorem zzt {ks:List Nat}{r:Nat}{v:List AV}:zow ks .ret st (some (.lp r v .busy))=rndC .ret (zfl {fr:=st.fr,hp:=(SHK,.lp r v (.done .ret))::st.hp} ks [] (zck {fr:=st.fr,hp:=(SHK,.lp r v (.done .ret))::st.hp} ks [])):=by
 simp only[zow,if_neg (show ¬Ex.ret= .norm by decide)]
theorem zwt {ks:List Nat}{r i:Nat}{v:List AV}:zow ks (.exit i) st (some (.lp r v .busy))=rndC (.exit i) (zfl {fr:=st.fr,hp:=(SHK,.lp r v (.done (.exit i)))::st.hp} ks [] (zck {fr:=st.fr,hp:=(SHK,.lp r v (.done (.exit i)))::st.hp} ks [])):=by
 simp only[zow,if_neg (show ¬Ex.exit i= .norm by simp)]
theorem zzq {l:List AV}{hp:Hp}{es:List OB}:rndC .norm (some (l,hp,es))=some (.bool true,hp,es):=by simp[rndC]
theorem z31 {l:List AV}{hp:Hp}{es:List OB}:rndC .ret (some (l,hp,es))=some (.bool false,hp,es):=by simp[rndC]
theorem zzr {i:Nat}{l:List AV}{hp:Hp}{es:List OB}:rndC (.exit i) (some (l,hp,es))=some (.bool false,hp,es):=by simp[rndC]
attribute [go_sem] zx4 qb4 zfq z37 zzx z38 z2h z2g zi0 qgk qgl qgm qgn z6y zzu zso zzs zws zzt zwt zzq z31 zzr frAt mcLt zrn ltO ksLt zcr
end Go.Ev
namespace Go.Ev
open Go
variable {gl :Gl} {cl:Cl} {st:St} {D:DfD}
def seqL (gl:Gl)(cl:Cl)(l:List MC):Option (Ex×St)->Option (Ex×St)
 | some (.norm,st)=>zjr gl cl l st
 | r=>r
theorem z2l :zjr gl cl [] st=some (.norm,st):=rfl
theorem zx8 {m:MC}{l:List MC}:zjr gl cl (m::l) st=seqL gl cl l (evC gl cl m st):=by
 rw[zjr]
 rcases evC gl cl m st with _|⟨_|_|_,_⟩<;>rfl
theorem zy9 {l:List MC}:seqL gl cl l (some (.norm,st))=zjr gl cl l st:=rfl
theorem z3p {l:List MC}:seqL gl cl l (some (.ret,st))=some (.ret,st):=rfl
theorem zza {l:List MC}{i:Nat}:seqL gl cl l (some (.exit i,st))=some (.exit i,st):=rfl
theorem zk0 {res:List ResD}{hk:List Nat}:ziv res hk st=genK st hk (zbh st res):=by
 unfold ziv
 rcases zbh st res with _|rs
 . rfl
 . rw[zmk,wE]
   rcases zfl st hk rs (zck st hk rs)with _|⟨_,_,_⟩<;>rfl
def dfC (D:DfD)(gl:Gl)(cl:Cl):Cl:=fun _ as h=>zts D gl cl (as.take D.slots.length) (as.drop D.slots.length) h
theorem qgg {f:Nat}{as:List AV}{h:Hp}:dfC D gl cl f as h=zts D gl cl (as.take D.slots.length) (as.drop D.slots.length) h:=rfl
def dfZ (hk:List Nat)(hp:Hp):Option (AV×Hp)->Option (AV×Hp×List OB)
 | some (v,us)=>genK {fr:=[],hp:=us++hp} hk (some [v])
 | none=>none
theorem zvu {hk:List Nat}{hp us:Hp}{v:AV}:dfZ hk hp (some (v,us))=genK {fr:=[],hp:=us++hp} hk (some [v]):=rfl
def dfF (D:DfD)(gl:Gl)(cl:Cl)(hk:List Nat):Option St->Option (AV×Hp×List OB)
 | some st=>dfZ hk st.hp (zbo (dfC D gl cl) st.hp D.d D.fS (zfq st.fr D.slots++vals gl st.fr D.dargs) (za0 st.hp (AV.refss (zfq st.fr D.slots++vals gl st.fr D.dargs))))
 | none=>none
theorem zvw {hk:List Nat}:dfF D gl cl hk (some st)=dfZ hk st.hp (zbo (dfC D gl cl) st.hp D.d D.fS (zfq st.fr D.slots++vals gl st.fr D.dargs) (za0 st.hp (AV.refss (zfq st.fr D.slots++vals gl st.fr D.dargs)))):=rfl
def dfA (D:DfD)(gl:Gl)(cl:Cl)(hk:List Nat):Option (Ex×St)->Option (AV×Hp×List OB)
 | some (.norm,st)=>dfF D gl cl hk (zb6 gl cl D.fos st)
 | some (.ret,st)=>genK st hk (zbh st D.res)
 | _=>none
theorem zvx {hk:List Nat}:dfA D gl cl hk (some (.norm,st))=dfF D gl cl hk (zb6 gl cl D.fos st):=rfl
theorem z2m {hk:List Nat}:dfA D gl cl hk (some (.ret,st))=genK st hk (zbh st D.res):=rfl
theorem qb7 (hok:dfOk D=true){args:List AV}{imps:Hp}:evDf D gl cl args imps=dfA D gl cl (zcf imps) (zjr gl cl D.mA {fr:=frOf 0 args,hp:=imps}):=by
 rw[evDf,if_pos hok]
 rcases zjr gl cl D.mA {fr:=frOf 0 args,hp:=imps}with _|⟨_|_|_,st⟩
 . rfl
 . rw[wE,zvx,<-zjq]
   simp only
   rcases zbw gl cl D.fos st with _|⟨st1,_⟩
   . rfl
   . simp only[wE,wF,zvw,zjp]
     show wG (zbo (dfC D gl cl) _ _ _ _ _) _=_
     rcases zbo (dfC D gl cl) _ _ _ _ _ with _|⟨v,us⟩
     . rfl
     . rw[wE,zvu,zmk]
       rcases zfl _ _ _ _ with _|⟨_,_,_⟩<;>rfl
 . rfl
 . rw[wE,z2m,<-zk0]
theorem z2z {tab:Nat->Option Fd}{n f:Nat}{args:List AV}{imps:Hp}{fd:Fd}(h:tab f=some fd)(hv:fd.giv=some (evDf D):=by rfl)(hok:dfOk D=true:=by rfl) :
  call gl tab (n+1) f args imps=dfA D gl (call gl tab n) (zcf imps) (zjr gl (call gl tab n) D.mA {fr:=frOf 0 args,hp:=imps}):=by
 rw[zk4 h hv,qb7 hok]
def dfS (D:DfD)(gl:Gl)(cl:Cl):Cl:=fun _ as h=>evFn gl cl D.fd as h
theorem qgf {f:Nat}{as:List AV}{h:Hp}:dfS D gl cl f as h=if zjm D.fd.pk&&mcLt D.fd.body then finG D.fd.res (zcf h) (evC gl cl D.fd.body {fr:=frOf 0 as,hp:=h})else evFn gl cl D.fd as h:=by
 unfold dfS
 split
 . rename_i hc
   rw[Bool.and_eq_true]at hc
   unfold evFn
   rw[if_pos hc.1,hc.2]
   simp only[Bool.not_true,Bool.false_eq_true,if_false]
   rcases evC gl cl D.fd.body {fr:=frOf 0 as,hp:=h}with _|⟨_|_|_,st⟩
   . rfl
   . rw[zrx,<-zk0];rfl
   . rfl
   . rw[zvm,<-zk0];rfl
 . rfl
def dfY (D:DfD)(fr:Fr)(hp:Hp)(hk:List Nat):Option (AV×Hp)->Option (AV×Hp×List OB)
 | some (_,us)=>genK {fr,hp:=us++hp} hk (zbh {fr,hp:=us++hp} D.res)
 | none=>none
theorem zvv {fr:Fr}{hp us:Hp}{hk:List Nat}{v:AV}:dfY D fr hp hk (some (v,us))=genK {fr,hp:=us++hp} hk (zbh {fr,hp:=us++hp} D.res):=rfl
def hasK (hp:Hp):List Nat->Bool
 | []=>true
 | k::l=>(hp.get k).isSome&&hasK hp l
theorem z5d {hp:Hp}:hasK hp []=true:=rfl
theorem zrr {hp:Hp}{k:Nat}{l:List Nat}:hasK hp (k::l)=((hp.get k).isSome&&hasK hp l):=rfl
theorem zve {hp:Hp}:∀l:List Nat,(l.all fun k=>(hp.get k).isSome)=hasK hp l
 | []=>rfl
 | k::l=>by rw[List.all_cons,zve l,zrr]
def dfE (D:DfD)(gl:Gl)(cl:Cl)(dv:List AV)(hk:List Nat)(st:St):Option (AV×Hp×List OB) :=
 if hasK st.hp hk then dfY D st.fr st.hp hk (zbo (dfS D gl cl) st.hp D.dd D.fS dv (za0 st.hp (AV.refss dv)))else none
def dfB (D:DfD)(gl:Gl)(cl:Cl)(dv:List AV)(hk:List Nat):Option (Ex×St)->Option (AV×Hp×List OB)
 | some (.norm,st)=>dfE D gl cl dv hk st
 | some (.ret,st)=>dfE D gl cl dv hk st
 | _=>none
theorem z7c {dv:List AV}{hk:List Nat}:dfB D gl cl dv hk (some (.norm,st))=dfE D gl cl dv hk st:=rfl
theorem qce {dv:List AV}{hk:List Nat}:dfB D gl cl dv hk (some (.ret,st))=dfE D gl cl dv hk st:=rfl
theorem z60 {vs dv:List AV}{hp0:Hp}:zts D gl cl vs dv hp0=dfB D gl cl dv (zcf hp0) (evC gl cl D.mB {fr:=frAt D.slots vs,hp:=hp0}):=by
 have key:∀st:St,(if(zcf hp0).all fun k=>(st.hp.get k).isSome then(zbo (fun _ as h=>evFn gl cl D.fd as h) st.hp D.dd D.fS dv (za0 st.hp (AV.refss dv))).bind fun q=>ziv D.res (zcf hp0) {fr:=st.fr,hp:=q.2++st.hp}else none)=dfE D gl cl dv (zcf hp0) st:=fun st=>by
  rw[zve]
  unfold dfE
  congr 1
  show wG (zbo (dfS D gl cl) _ _ _ _ _) _=_
  rcases zbo (dfS D gl cl) _ _ _ _ _ with _|⟨_,_⟩
  . rfl
  . rw[wE,zvv,<-zk0]
 rw[zts]
 rcases evC gl cl D.mB {fr:=frAt D.slots vs,hp:=hp0}with _|⟨_|_|_,st⟩
 . rfl
 . exact key st
 . rfl
 . exact key st
theorem zrc {hp hp':Hp}{j:Nat}{s sh:Sh}:zin hp hp' j (.lst true s []) (.own sh)=some (.sl (20000+j) [] 0 0,[.grow sh []]):=rfl
attribute [go_sem] zrc z2l zx8 zy9 z3p zza qgg zvu zvw zvx z2m zvv dfE z5d zrr z7c qce
end Go.Ev
