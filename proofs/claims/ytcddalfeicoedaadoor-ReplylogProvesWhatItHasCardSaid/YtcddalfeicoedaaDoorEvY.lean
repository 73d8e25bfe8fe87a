/-
  For the evaluator's user: loops that may end early, and rules whose side conditions are linear. No condition.
-/
import Derived.Test.YtcddalfeicoedaaDoorEvS
import Derived.Test.YtcddalfeicoedaaDoorEvCall2
set_option linter.all false
open Nat renaming le_refl->wA,not_lt_zero->wB,sub_self->wC,not_lt->wD
open Option renaming bind_some->wE,map_some->wF,bind->wG
namespace Go.Ev
open Go
noncomputable def fstN (p:Nat->Prop):Nat->Nat
 | 0=>0
 | n+1=>by classical exact if fstN p n<n then fstN p n else if p n then n+1 else n
theorem zkm (p:Nat->Prop):∀N,fstN p N<=N/\(∀i,i<fstN p N->p i)/\(fstN p N<N->¬p (fstN p N))
 | 0=>⟨wA _,fun i h=>absurd h (wB _),fun h=>absurd h (wB _)⟩
 | n+1=>by
   obtain⟨h1,h2,h3⟩:=zkm p n
   rw[fstN]
   split
   . rename_i h;exact⟨by omega,h2,fun _=>h3 h⟩
   . rename_i h
     have e:fstN p n=n:=by omega
     rw[e]at h2
     split
     . rename_i hp;exact⟨by omega,fun i hi=>by by_cases hi':i=n;exact hi'▸hp;exact h2 i (by omega),fun h=>by omega⟩
     . rename_i hp;exact⟨by omega,h2,fun _=>hp⟩
theorem z4i {f:St->Option (Ex×St)}{ks:List Kp}(S:Nat->St)(N:Nat)(p:Nat->Prop){st:St}(hN:N<LF)(h0:zd0 ks st=some (S 0))
  (hs:∀i,i<N->p i->zb1 ks (f (S i))=some (S (i+1))) (hx:∀i,i<N->¬p i->isEx (f (S i))=true) (he:isEx (f (S N))=true) :
  iter f ks LF st=f (S (fstN p N)):=by
 obtain⟨h1,h2,h3⟩:=zkm p N
 refine zao S (fstN p N) (by omega) h0 (fun i hi=>hs i (by omega) (h2 i hi)) ?_
 by_cases h:fstN p N<N
 . exact hx _ h (h3 h)
 . have:fstN p N=N:=by omega
   rw[this];exact he
theorem w64 {a:Int}(h:-9223372036854775808<=a/\a<=9223372036854775807):IntKind.wrap .i64 a=a:=za5 h.1 h.2
theorem z5s (a b:Nat):((a+b:Nat):Int)=(a:Int)+(b:Int):=rfl
end Go.Ev
namespace Go.Ev
theorem qhe {a b:Int}(h:a=b):(a==b)=true:=by simp[h]
theorem qhf {a b:Int}(h:a<b\/b<a):(a==b)=false:=beq_eq_false_iff_ne.2 (by omega)
theorem qhc {a b:Int}(h:a<b\/b<a):(a != b)=true:=bne_iff_ne.2 (by omega)
theorem qhd {a b:Int}(h:a=b):(a != b)=false:=by simp[h]
end Go.Ev
namespace Go.Ev
theorem qbk {a b:Int}(h:0<=a/\0<=b):(a+b).toNat=a.toNat+b.toNat:=by omega
theorem qbj {a b:Int}(h:0<=a/\0<=b):(a*b).toNat=a.toNat * b.toNat:=Int.toNat_mul h.1 h.2
theorem qbh {a b:Int}(h:0<=b):(a-b).toNat=a.toNat-b.toNat:=by omega
theorem qbi :(1:Int).toNat=1:=rfl
theorem z69 :(0:Int).toNat=0:=rfl
end Go.Ev
namespace Go.Ev
theorem qfx {a b:Nat}(h:a<b):(a<b)=True:=eq_true h
theorem qfy {a b:Nat}(h:b<=a):(a<b)=False:=eq_false (by omega)
theorem qf1 {a b:Nat}(h:a<=b):(a<=b)=True:=eq_true h
theorem qf2 {a b:Nat}(h:b<a):(a<=b)=False:=eq_false (by omega)
theorem qfz {a b:Int}(h:a<b):(a<b)=True:=eq_true h
theorem qf0 {a b:Int}(h:b<=a):(a<b)=False:=eq_false (by omega)
theorem qf3 {a b:Int}(h:a<=b):(a<=b)=True:=eq_true h
theorem qf4 {a b:Int}(h:b<a):(a<=b)=False:=eq_false (by omega)
theorem qg4 {a b:Nat}(h:a=b):(a=b)=True:=eq_true h
theorem qg5 {a b:Nat}(h:a<b\/b<a):(a=b)=False:=eq_false (by omega)
theorem qg6 {a b:Int}(h:a=b):(a=b)=True:=eq_true h
theorem qg7 {a b:Int}(h:a<b\/b<a):(a=b)=False:=eq_false (by omega)
end Go.Ev
namespace Go.Ev
open Go
theorem z4h {f:St->Option (Ex×St)}{ks:List Kp}(I:Nat->St->Prop)(N:Nat){s0:St}(hN:N<LF)(hI:I 0 s0)
  (hs:∀i s,i<N->I i s->∃s',zb1 ks (f s)=some s'/\I (i+1) s') (he:∀s,I N s->isEx (f s)=true) :
  ∃s,I N s/\∀st,zd0 ks st=some s0->iter f ks LF st=f s:=by
 have key:∀(d i:Nat) (s0:St),i+d=N->I i s0->∃s,I N s/\∀n st,d<n->zd0 ks st=some s0->iter f ks n st=f s:=by
  intro d
  induction d with
  | zero =>
    intro i s0 hi hI
    have:i=N:=by omega
    subst this
    refine⟨s0,hI,fun n st hn hc=> ?_⟩
    obtain⟨n,rfl⟩:∃m,n=m+1:=⟨n-1,by omega⟩
    have hx:=he s0 hI
    cases hf:f s0 with
    | none=>rw[hf]at hx;cases hx
    | some r =>
      obtain⟨e,out⟩:=r
      exact zkk hc hf (by rw[hf]at hx;cases e<;>simp_all[isEx])
  | succ d ih =>
    intro i s0 hi hI
    obtain⟨s',h1,h2⟩:=hs i s0 (by omega) hI
    unfold zb1 at h1
    split at h1
    . rename_i st2 hf
      obtain⟨s,hIs,hit⟩:=ih (i+1) s' (by omega) h2
      refine⟨s,hIs,fun n st hn hc=> ?_⟩
      obtain⟨n,rfl⟩:∃m,n=m+1:=⟨n-1,by omega⟩
      rw[zlv hc hf]
      exact hit n st2 (by omega) h1
    . cases h1
 obtain⟨s,h1,h2⟩:=key N 0 s0 (by omega) hI
 exact⟨s,h1,fun st hc=>h2 LF st hN hc⟩
end Go.Ev
namespace Go.Ev
open Go
theorem xx :(∀a b:Int,0<=a/\0<=b->(a+b).toNat=a.toNat+b.toNat)/\(∀a b:Int,0<=a/\0<=b->(a*b).toNat=a.toNat * b.toNat)/\(∀a b:Int,0<=b->(a-b).toNat=a.toNat-b.toNat) /\
  (1:Int).toNat=1/\(0:Int).toNat=0/\(∀a:Int,-9223372036854775808<=a/\a<=9223372036854775807->IntKind.wrap .i64 a=a) /\
  (∀a b:Nat,a<b->(a<b)=True)/\(∀a b:Nat,b<=a->(a<b)=False)/\(∀a b:Nat,a<=b->(a<=b)=True)/\(∀a b:Nat,b<a->(a<=b)=False) /\
  (∀a b:Int,a<b->(a<b)=True)/\(∀a b:Int,b<=a->(a<b)=False)/\(∀a b:Int,a<=b->(a<=b)=True)/\(∀a b:Int,b<a->(a<=b)=False) /\
  (∀a b:Nat,a=b->(a=b)=True)/\(∀a b:Nat,a<b\/b<a->(a=b)=False)/\(∀a b:Int,a=b->(a=b)=True)/\(∀a b:Int,a<b\/b<a->(a=b)=False) /\
  (∀a b:Int,a=b->(a==b)=true)/\(∀a b:Int,a<b\/b<a->(a==b)=false)/\(∀a b:Int,a<b\/b<a->(a != b)=true)/\(∀a b:Int,a=b->(a != b)=false) /\
  (∀a b:Nat,((a+b:Nat):Int)=(a:Int)+(b:Int)) :=
 ⟨fun _ _=>qbk,fun _ _=>qbj,fun _ _=>qbh,qbi,z69,fun _=>w64,fun _ _=>qfx,fun _ _=>qfy,fun _ _=>qf1,fun _ _=>qf2,
   fun _ _=>qfz,fun _ _=>qf0,fun _ _=>qf3,fun _ _=>qf4,fun _ _=>qg4,fun _ _=>qg5,fun _ _=>qg6,fun _ _=>qg7,fun _ _=>qhe,fun _ _=>qhf,fun _ _=>qhc,fun _ _=>qhd,fun _ _=>z5s _ _⟩
end Go.Ev
namespace Go.Ev
open Go
def symK :Bool->Option AV->AV->Option AV
 | true,r,_=>r
 | false,_,y=>some y
theorem qbp {r:Option AV}{y:AV}:symK true r y=r:=rfl
theorem qbq {r:Option AV}{y:AV}:symK false r y=some y:=rfl
section
variable {gl :Gl} {cl:Cl} {st:St}
theorem zz9 {t:Bool}{blk:Its}{a b:Opd}:iteS gl cl true t blk a b st=symK t (iteC gl a (zcs gl cl blk st)) (b.val gl st.fr):=by cases t<;>rfl
theorem z0a {t:Bool}{blk:Its}{a b:Opd}:iteS gl cl false t blk a b st=symK (!t) (iteC gl b (zcs gl cl blk st)) (a.val gl st.fr):=by cases t<;>rfl
theorem zwv {d:Option Nat}{m:MOp}{w:Bool}{l:List FO}:zgt gl cl d m w l st (.tup [])=zb0 gl cl l (st.upd d (.tup []) []):=rfl
end
theorem z25 {t x:Bool}:symK t (some (.bool x)) (.bool false)=some (.bool (t&&x)):=by cases t<;>rfl
theorem z7d {t x:Bool}:symK (!t) (some (.bool x)) (.bool true)=some (.bool (t||x)):=by cases t<;>rfl
attribute [go_sem] zwv zz9 z0a qbp qbq z25 z7d cond_true cond_false Bool.false_and Bool.and_false
theorem zz8 {α:Type}{f:St->Option (Ex×St)}{ks:List Kp}(S:α->St)(Inv:α->Prop)(μ:α->Nat)(next:α->α)(go:α->Bool){a0:α}(hN:μ a0<LF)(hI:Inv a0)
  (hs:∀a,Inv a->go a=true->zb1 ks (f (S a))=some (S (next a))/\Inv (next a)/\μ (next a)<μ a) (he:∀a,Inv a->go a=false->isEx (f (S a))=true) :
  ∃a,Inv a/\go a=false/\∀st,zd0 ks st=some (S a0)->iter f ks LF st=f (S a):=by
 have key:∀(m n:Nat) (a:α),μ a<=m->m<n->Inv a->∃a',Inv a'/\go a'=false/\∀st,zd0 ks st=some (S a)->iter f ks n st=f (S a'):=by
  intro m
  induction m with
  | zero =>
    intro n a hm hn hi
    obtain⟨n,rfl⟩:∃k,n=k+1:=⟨n-1,by omega⟩
    cases hg:go a with
    | true=>obtain⟨_,_,h3⟩:=hs a hi hg;omega
    | false =>
      refine⟨a,hi,hg,fun st hc=> ?_⟩
      have hx:=he a hi hg
      cases hf:f (S a)with
      | none=>rw[hf]at hx;cases hx
      | some r =>
        obtain⟨e,out⟩:=r
        exact zkk hc hf (by rw[hf]at hx;cases e<;>simp_all[isEx])
  | succ m ih =>
    intro n a hm hn hi
    obtain⟨n,rfl⟩:∃k,n=k+1:=⟨n-1,by omega⟩
    cases hg:go a with
    | true =>
      obtain⟨h1,h2,h3⟩:=hs a hi hg
      unfold zb1 at h1
      split at h1
      . rename_i st2 hf
        obtain⟨a',g1,g2,g3⟩:=ih n (next a) (by omega) (by omega) h2
        exact⟨a',g1,g2,fun st hc=>(zlv hc hf).trans (g3 st2 h1)⟩
      . cases h1
    | false =>
      refine⟨a,hi,hg,fun st hc=> ?_⟩
      have hx:=he a hi hg
      cases hf:f (S a)with
      | none=>rw[hf]at hx;cases hx
      | some r =>
        obtain⟨e,out⟩:=r
        exact zkk hc hf (by rw[hf]at hx;cases e<;>simp_all[isEx])
 exact key (μ a0) LF a0 (wA _) hN hI
def out1 (t:Nat)(r:Option (Ex×St)):Option (Ex×AV):=r.map fun r=>(r.1,r.2.fr.get t)
theorem zzk {t:Nat}{e:Ex}{st:St}:out1 t (some (e,st))=some (e,st.fr.get t):=rfl
theorem zds {t:Nat}{r:Option (Ex×St)}{v:AV}(h:out1 t r=some (.ret,v)):∃st,r=some (.ret,st)/\st.fr.get t=v:=by
 obtain _|⟨e,st⟩:=r
 . cases h
 . simp only[out1,wF,Option.some.injEq,Prod.mk.injEq]at h;exact⟨st,by rw[h.1],h.2⟩
attribute [go_sem] zzk
end Go.Ev
namespace Go.Ev
open Go
def zbb (gl:Gl)(cl:Cl)(need:List Nat):Nat->List (Nat×List Nat)->List FO->St->Option (St×List (Nat×List Nat))
 | _,acc,[],st=>some (st,acc)
 | i,acc,o::l,st =>
   match o.g with
   | none=>(zad gl cl st o.d o.m).bind fun r=>zbb gl cl need (i+1) (if need.contains i then(i,zbf gl st o.m)::acc else acc) l (st.upd o.d r.1 r.2)
   | some (c,want) =>
     match st.fr.get c with
     | .bool t=>if t=want then(zad gl cl st o.d o.m).bind fun r=>zbb gl cl need (i+1) (if need.contains i then(i,zbf gl st o.m)::acc else acc) l (st.upd o.d r.1 r.2)else zbb gl cl need (i+1) acc l (st.upd o.d (.tup []) [])
     | .tup []=>zbb gl cl need (i+1) acc l (st.upd o.d (.tup []) [])
     | _=>none
def lk :List (Nat×List Nat)->Nat->List Nat
 | [],_=>[]
 | p::r,j=>if p.1=j then p.2 else lk r j
def zmm :List (Nat×Nat)->List Nat
 | []=>[]
 | p::r=>p.1::p.2::zmm r
theorem zqz :∀{prs:List (Nat×Nat)} {p:Nat×Nat},p∈prs->p.1∈zmm prs/\p.2∈zmm prs
 | _::r,p,h=>by
   rcases List.mem_cons.1 h with rfl|h
   . simp[zmm]
   . have:=zqz h;simp[zmm,this]
def Nt (need:List Nat)(i:Nat)(acc:List (Nat×List Nat))(ks:List (List Nat))(acc':List (Nat×List Nat)):Prop :=
 ∀j,need.contains j=true->lk acc' j=if i<=j/\lk acc j=[]then ks.getD (j-i) []else lk acc j
variable {gl :Gl} {cl:Cl} {st:St}
theorem zpf {need:List Nat}:∀(l:List FO) (i:Nat) (acc:List (Nat×List Nat)) (st:St),(∀j,i<=j->lk acc j=[]) ->
  match zbq gl cl l st,zbb gl cl need i acc l st with
  | some (s,ks),some (s',acc')=>s=s'/\Nt need i acc ks acc'
  | none,none=>True
  | _,_=>False
 | [],i,acc,st,h=>by
   simp only[zbq,zbb]
   refine⟨trivial,fun j hj=> ?_⟩
   split
   . rename_i h2;simp[h2.2]
   . rfl
 | o::l,i,acc,st,h=>by
   obtain⟨d,m,g⟩:=o
   have step:∀(kk:List Nat) (st':St),match (zbq gl cl l st').map (fun q=>(q.1,kk::q.2)),zbb gl cl need (i+1) (if need.contains i then(i,kk)::acc else acc) l st' with
     | some (s,ks),some (s',acc')=>s=s'/\Nt need i acc ks acc'
     | none,none=>True
     | _,_=>False:=fun kk st'=>by
    have ih:=zpf (need:=need) l (i+1) (if need.contains i then(i,kk)::acc else acc) st' (fun j hj=>by
     split
     . rw[lk,if_neg (show ¬i=j by omega)];exact h j (by omega)
     . exact h j (by omega))
    revert ih
    cases zbq gl cl l st' with
    | none=>cases zbb gl cl need (i+1) (if need.contains i then(i,kk)::acc else acc) l st'<;>exact id
    | some q =>
      cases zbb gl cl need (i+1) (if need.contains i then(i,kk)::acc else acc) l st' with
      | none=>exact id
      | some q' =>
        rintro ⟨h1,h2⟩
        refine⟨h1,fun j hj=> ?_⟩
        rw[h2 j hj]
        by_cases hij:i=j
        . subst hij
          rw[if_neg (by omega),hj,if_pos rfl,lk,if_pos rfl,if_pos ⟨wA _,h i (wA _)⟩,wC];rfl
        . have e:lk (if need.contains i then(i,kk)::acc else acc) j=lk acc j:=by
           split
           . rw[lk,if_neg hij]
           . rfl
          rw[e]
          by_cases h3:i<=j
          . have h4:=h j h3
            rw[if_pos ⟨by omega,h4⟩,if_pos ⟨h3,h4⟩,show j-i=(j-(i+1))+1 by omega];rfl
          . rw[if_neg (by omega),if_neg (by omega)]
   have skip:∀(st':St),match (zbq gl cl l st').map (fun q=>(q.1,([]:List Nat)::q.2)),zbb gl cl need (i+1) acc l st' with
     | some (s,ks),some (s',acc')=>s=s'/\Nt need i acc ks acc'
     | none,none=>True
     | _,_=>False:=fun st'=>by
    have ih:=zpf (need:=need) l (i+1) acc st' (fun j hj=>h j (by omega))
    revert ih
    cases zbq gl cl l st' with
    | none=>cases zbb gl cl need (i+1) acc l st'<;>exact id
    | some q =>
      cases zbb gl cl need (i+1) acc l st' with
      | none=>exact id
      | some q' =>
        rintro ⟨h1,h2⟩
        refine⟨h1,fun j hj=> ?_⟩
        rw[h2 j hj]
        by_cases hij:i=j
        . subst hij
          have h4:=h i (wA _)
          rw[if_neg (by omega),if_pos ⟨wA _,h4⟩,wC];exact h4
        . by_cases h3:i<=j
          . have h4:=h j h3
            rw[if_pos ⟨by omega,h4⟩,if_pos ⟨h3,h4⟩,show j-i=(j-(i+1))+1 by omega];rfl
          . rw[if_neg (by omega),if_neg (by omega)]
   cases g with
   | none =>
     simp only[zbq,zbb]
     cases zad gl cl st d m with
     | none=>trivial
     | some r=>exact step _ _
   | some p =>
     obtain⟨c,want⟩:=p
     simp only[zbq,zbb]
     cases st.fr.get c with
     | bool t =>
       by_cases ht:t=want
       . simp only[ht,if_true]
         cases zad gl cl st d m with
         | none=>trivial
         | some r=>exact step _ _
       . simp only[ht,if_false];exact skip _
     | tup r=>cases r with
       | nil=>exact skip _
       | cons=>trivial
     | _=>trivial
def zxi (acc:List (Nat×List Nat)):List (Nat×Nat)->Bool
 | []=>true
 | p::r=>disj (lk acc p.1) (lk acc p.2)&&zxi acc r
def z1p (prs:List (Nat×Nat)):Option (St×List (Nat×List Nat))->Option (Ex×St)
 | some (st,acc)=>if zxi acc prs then some (.norm,st)else none
 | none=>none
def znd (gl:Gl)(cl:Cl)(need:List Nat)(i:Nat)(acc:List (Nat×List Nat))(d:Option Nat)(m:MOp)(l:List FO)(st:St):Option (AV×Hp)->Option (St×List (Nat×List Nat))
 | some (v,us)=>zbb gl cl need (i+1) (if need.contains i then(i,zbf gl st m)::acc else acc) l (st.upd d v us)
 | none=>none
def zd2 (gl:Gl)(cl:Cl)(need:List Nat)(i:Nat)(acc:List (Nat×List Nat))(d:Option Nat)(m:MOp)(w:Bool)(l:List FO)(st:St):AV->Option (St×List (Nat×List Nat))
 | .bool t=>if t=w then znd gl cl need i acc d m l st (zad gl cl st d m)else zbb gl cl need (i+1) acc l (st.upd d (.tup []) [])
 | .tup []=>zbb gl cl need (i+1) acc l (st.upd d (.tup []) [])
 | _=>none
theorem zvc {acc:List (Nat×List Nat)}{ks:List (List Nat)}{need:List Nat}(h:Nt need 0 [] ks acc):∀prs:List (Nat×Nat),(∀p∈prs,p.1∈need/\p.2∈need) ->
  zxi acc prs=prs.all fun p=>disj (ks.getD p.1 []) (ks.getD p.2 [])
 | [],_=>rfl
 | p::r,hp=>by
   obtain⟨h1,h2⟩:=hp p (by simp)
   have e1:=h p.1 (by simpa using h1)
   have e2:=h p.2 (by simpa using h2)
   rw[if_pos ⟨Nat.zero_le _,rfl⟩,Nat.sub_zero]at e1 e2
   rw[zxi,List.all_cons,e1,e2,zvc h r fun q hq=>hp q (by simp[hq])]
theorem z1i {l:List FO}{p:Nat×Nat}{prs:List (Nat×Nat)}:evC gl cl (.draw l (p::prs)) st=z1p (p::prs) (zbb gl cl (zmm (p::prs)) 0 [] l st):=by
 rw[evC]
 have h:=zpf (gl:=gl) (cl:=cl) (need:=zmm (p::prs)) l 0 [] st (fun _ _=>rfl)
 revert h
 cases zbq gl cl l st with
 | none=>cases zbb gl cl (zmm (p::prs)) 0 [] l st<;>simp[z1p]
 | some q =>
   cases zbb gl cl (zmm (p::prs)) 0 [] l st with
   | none=>exact False.elim
   | some q' =>
     rintro ⟨h1,h2⟩
     simp only[wE,z1p,zvc h2 _ fun x hx=>zqz hx,h1]
section
variable {need :List Nat} {i:Nat} {acc:List (Nat×List Nat)} {d:Option Nat} {m:MOp} {l:List FO}
theorem ztd :zbb gl cl need i acc [] st=some (st,acc):=by rw[zbb]
theorem zxd :zbb gl cl need i acc (⟨d,m,none⟩::l) st=znd gl cl need i acc d m l st (zad gl cl st d m):=by
 rw[zbb];rcases zad gl cl st d m with _|⟨_,_⟩<;>rfl
theorem zpk {c:Nat}{w:Bool}:zbb gl cl need i acc (⟨d,m,some (c,w)⟩::l) st=zd2 gl cl need i acc d m w l st (st.fr.get c):=by
 rw[zbb]
 simp only
 generalize st.fr.get c=v
 cases v with
 | bool t =>
   simp only[zd2]
   by_cases h:t=w
   . simp only[h,if_true];rcases zad gl cl st d m with _|⟨_,_⟩<;>rfl
   . simp only[h,if_false]
 | tup l=>cases l<;>rfl
 | _=>rfl
theorem ztb {v:AV}{us:Hp}:znd gl cl need i acc d m l st (some (v,us))=zbb gl cl need (i+1) (if need.contains i then(i,zbf gl st m)::acc else acc) l (st.upd d v us):=by rw[znd]
theorem zwr :zd2 gl cl need i acc d m true l st (.bool true)=znd gl cl need i acc d m l st (zad gl cl st d m):=by rw[zd2,if_pos rfl]
theorem zwu :zd2 gl cl need i acc d m false l st (.bool false)=znd gl cl need i acc d m l st (zad gl cl st d m):=by rw[zd2,if_pos rfl]
theorem zws :zd2 gl cl need i acc d m true l st (.bool false)=zbb gl cl need (i+1) acc l (st.upd d (.tup []) []):=by rw[zd2,if_neg (by decide)]
theorem zwt :zd2 gl cl need i acc d m false l st (.bool true)=zbb gl cl need (i+1) acc l (st.upd d (.tup []) []):=by rw[zd2,if_neg (by decide)]
theorem zs7 {w:Bool}:zd2 gl cl need i acc d m w l st (.tup [])=zbb gl cl need (i+1) acc l (st.upd d (.tup []) []):=by rw[zd2]
theorem zxg {prs:List (Nat×Nat)}:z1p prs (some (st,acc))=if zxi acc prs then some (.norm,st)else none:=by rw[z1p]
end
theorem qcv {j:Nat}:lk [] j=[]:=by rw[lk]
theorem z84 {p:Nat×List Nat}{r:List (Nat×List Nat)}{j:Nat}:lk (p::r) j=if p.1=j then p.2 else lk r j:=by rw[lk]
theorem z5f {b:List Nat}:disj [] b=true:=rfl
theorem z1s {a:Nat}{l b:List Nat}:disj (a::l) b=(!b.contains a&&disj l b):=rfl
attribute [go_sem] z1i ztd zxd zpk ztb zwr zwu zws zwt zs7 zxg qcv z84 zxi z5f z1s zmm zbf MOp.opds Option.toList
end Go.Ev
namespace Go.Ev
open Go
variable {gl :Gl} {cl:Cl} {st:St}
def rfE (fr:Fr)(hp:Hp)(kd:Nat):Option OB->Option (Ex×St)
 | some (.lp _ _ .ready)=>some (.norm,{fr,hp:=(kd,.dead)::hp})
 | some (.lp _ _ (.done e))=>some (e,{fr,hp:=(kd,.dead)::hp})
 | _=>none
def rfK (fr:Fr)(kd:Nat)(hp:Hp):Option (AV×Hp)->Option (Ex×St)
 | some (_,us)=>rfE fr (us++hp) kd (Hp.get (us++hp) kd)
 | none=>none
theorem zxf {rid:Nat}{g:Opd}{slots:List Nat}{kd dc:Nat}:evC gl cl (.rangeF rid g slots kd dc) st=evRf cl rid slots kd dc st (g.val gl st.fr):=by rw[evC]
def zfl (fr:Fr):List Nat->List AV
 | []=>[]
 | i::l=>fr.get i::zfl fr l
theorem zja {fr:Fr}:∀{l:List Nat},l.map fr.get=zfl fr l
 | []=>rfl
 | i::l=>by rw[List.map_cons,zfl,zja]
theorem qd8 {f:Nat}(h:f<2000000):cvF f=f:=if_pos h
theorem qd9 {f:Nat}(h:2000000<=f):cvF f=f-2000000:=if_neg (wD.2 h)
theorem qea {f:Nat}{a c:List AV}(h:f<2000000):cvA f a c=a++c:=if_pos h
theorem qeb {f:Nat}{a c:List AV}(h:2000000<=f):cvA f a c=c++a:=if_neg (wD.2 h)
theorem z9z {rid:Nat}{slots:List Nat}{kd dc h:Nat}{caps:List AV}:evRf cl rid slots kd dc st (.fn h caps) =
  if(st.hp.get kd).isNone&&decide (kd<SHK)&&decide (h<RB)then rfK st.fr kd ((kd,.lp rid (zfl st.fr slots) .ready)::st.hp) (zbi cl ((kd,.lp rid (zfl st.fr slots) .ready)::st.hp) dc h (.yld kd::caps) (zay ((kd,.lp rid (zfl st.fr slots) .ready)::st.hp) (kd::AV.refss caps)))else none:=by
 rw[evRf,zja]
 split
 . cases zbi cl ((kd,.lp rid (zfl st.fr slots) .ready)::st.hp) dc h (.yld kd::caps) (zay ((kd,.lp rid (zfl st.fr slots) .ready)::st.hp) (kd::AV.refss caps))with
   | none=>rfl
   | some r=>simp only[wE,rfK,z79,rfE];rfl
 . rfl
theorem z3m {fr:Fr}{kd:Nat}{hp:Hp}{r:AV}{us:Hp}:rfK fr kd hp (some (r,us))=rfE fr (us++hp) kd (Hp.get (us++hp) kd):=by rw[rfK]
theorem zy2 {fr:Fr}{hp:Hp}{kd rid:Nat}{vals:List AV}:rfE fr hp kd (some (.lp rid vals .ready))=some (.norm,{fr,hp:=(kd,.dead)::hp}):=by rw[rfE]
theorem z3n {fr:Fr}{hp:Hp}{kd rid:Nat}{vals:List AV}{e:Ex}:rfE fr hp kd (some (.lp rid vals (.done e)))=some (e,{fr,hp:=(kd,.dead)::hp}):=by rw[rfE]
def drK (cl:Cl)(hp:Hp)(d q:Nat)(args:List AV):Option OB->Option (AV×Hp)
 | some (.lp rid _ .ready)=>zbi cl hp d (RB+rid) args (zay hp (q::AV.refss args))
 | _=>none
theorem z1r {hp:Hp}{d q:Nat}{args:List AV}:zf6 cl hp d q args .imp=drK cl hp d q args (hp.get q):=by
 simp only[zf6]
 rcases hp.get q with _|_|_|_|⟨_,_,_|_|_⟩<;>rfl
theorem z1q {hp:Hp}{d q:Nat}{args:List AV}{rid:Nat}{vals:List AV}:drK cl hp d q args (some (.lp rid vals .ready))=zbi cl hp d (RB+rid) args (zay hp (q::AV.refss args)):=by rw[drK]
def rndC (e:Ex):Option (List AV×Hp×List OB)->Option (AV×Hp×List OB)
 | some (_,hp,es)=>some (.bool (decide (e= .norm)),hp,es)
 | none=>none
def zom (ks:List Nat)(e:Ex)(st:St):Option OB->Option (AV×Hp×List OB)
 | some (.lp r v .busy)=>rndC e (zfg {fr:=st.fr,hp:=(SHK,.lp r v (if e= .norm then .ready else .done e))::st.hp} ks [] (zcg {fr:=st.fr,hp:=(SHK,.lp r v (if e= .norm then .ready else .done e))::st.hp} ks []))
 | _=>none
def rndB (ks:List Nat):Option (Ex×St)->Option (AV×Hp×List OB)
 | some (e,st)=>zom ks e st (Hp.get st.hp SHK)
 | none=>none
def zy0 (gl:Gl)(cl:Cl)(body:MC)(ks:List Nat)(st:St):Option OB->Option (AV×Hp×List OB)
 | some (.lp r v .ready)=>rndB ks (evC gl cl body {fr:=st.fr,hp:=(SHK,.lp r v .busy)::st.hp})
 | _=>none
def rndA (gl:Gl)(cl:Cl)(body:MC)(ks:List Nat):Option (Ex×St)->Option (AV×Hp×List OB)
 | some (.norm,st)=>zy0 gl cl body ks st (Hp.get st.hp SHK)
 | _=>none
theorem z44 {params slots:List Nat}{as body:MC}{args:List AV}{q rid:Nat}{vals:List AV}{r:Hp}:zpj params slots as body gl cl args ((q,.lp rid vals .ready)::r) =
  if decide (q=SHK)&&decide (args.length=params.length)&&zgm params&&mcLt as&&mcLt body&& !zcj as&& !zcj body then
   rndA gl cl body (q::zca r) (evC gl cl as {fr:=frAt params args++frAt slots vals,hp:=(q,.lp rid vals .ready)::r})else none:=by
 rw[zpj]
 simp only
 split
 . cases evC gl cl as {fr:=frAt params args++frAt slots vals,hp:=(q,.lp rid vals .ready)::r}with
   | none=>rfl
   | some a =>
     obtain⟨e,sa⟩:=a
     cases e with
     | norm =>
       simp only[wE,rndA]
       rcases hk:Hp.get sa.hp SHK with _|_|_|_|⟨r1,v1,_|_|_⟩<;>simp only[zy0]
       cases evC gl cl body {fr:=sa.fr,hp:=(SHK,.lp r1 v1 .busy)::sa.hp}with
       | none=>rfl
       | some b =>
         obtain⟨eb,sb⟩:=b
         simp only[wE,rndB]
         rcases hk2:Hp.get sb.hp SHK with _|_|_|_|⟨r2,v2,_|_|_⟩<;>simp only[zom,zca]
         rcases zfg _ _ _ _ with _|⟨_,_,_⟩<;>rfl
     | exit id=>rfl
     | ret=>rfl
 . rfl
theorem zyz {body:MC}{ks:List Nat}:rndA gl cl body ks (some (.norm,st))=zy0 gl cl body ks st (Hp.get st.hp SHK):=by rw[rndA]
theorem zsd {body:MC}{ks:List Nat}{r:Nat}{v:List AV}:zy0 gl cl body ks st (some (.lp r v .ready))=rndB ks (evC gl cl body {fr:=st.fr,hp:=(SHK,.lp r v .busy)::st.hp}):=by rw[zy0]
theorem zyx {ks:List Nat}{e:Ex}:rndB ks (some (e,st))=zom ks e st (Hp.get st.hp SHK):=by rw[rndB]
theorem zv9 {ks:List Nat}{r:Nat}{v:List AV}:zom ks .norm st (some (.lp r v .busy))=rndC .norm (zfg {fr:=st.fr,hp:=(SHK,.lp r v .ready)::st.hp} ks [] (zcg {fr:=st.fr,hp:=(SHK,.lp r v .ready)::st.hp} ks [])):=by simp only[zom,if_true]
theorem zyy {ks:List Nat}{r:Nat}{v:List AV}:zom ks .ret st (some (.lp r v .busy))=rndC .ret (zfg {fr:=st.fr,hp:=(SHK,.lp r v (.done .ret))::st.hp} ks [] (zcg {fr:=st.fr,hp:=(SHK,.lp r v (.done .ret))::st.hp} ks [])):=by
 simp only[zom,if_neg (show ¬Ex.ret= .norm by decide)]
theorem zwa {ks:List Nat}{r i:Nat}{v:List AV}:zom ks (.exit i) st (some (.lp r v .busy))=rndC (.exit i) (zfg {fr:=st.fr,hp:=(SHK,.lp r v (.done (.exit i)))::st.hp} ks [] (zcg {fr:=st.fr,hp:=(SHK,.lp r v (.done (.exit i)))::st.hp} ks [])):=by
 simp only[zom,if_neg (show ¬Ex.exit i= .norm by simp)]
theorem zyv {l:List AV}{hp:Hp}{es:List OB}:rndC .norm (some (l,hp,es))=some (.bool true,hp,es):=by simp[rndC]
theorem z3i {l:List AV}{hp:Hp}{es:List OB}:rndC .ret (some (l,hp,es))=some (.bool false,hp,es):=by simp[rndC]
theorem zyw {i:Nat}{l:List AV}{hp:Hp}{es:List OB}:rndC (.exit i) (some (l,hp,es))=some (.bool false,hp,es):=by simp[rndC]
attribute [go_sem] zxf z9z zfl z3m zy2 z3n z1r z1q zir qd8 qd9 qea qeb z44 zyz zsd zyx zv9 zyy zwa zyv z3i zyw frAt mcLt zq4 ltO ksLt zcj
end Go.Ev
namespace Go.Ev
open Go
variable {gl :Gl} {cl:Cl} {st:St} {D:DfD}
def seqL (gl:Gl)(cl:Cl)(l:List MC):Option (Ex×St)->Option (Ex×St)
 | some (.norm,st)=>zjd gl cl l st
 | r=>r
theorem z1v :zjd gl cl [] st=some (.norm,st):=rfl
theorem zxj {m:MC}{l:List MC}:zjd gl cl (m::l) st=seqL gl cl l (evC gl cl m st):=by
 rw[zjd]
 rcases evC gl cl m st with _|⟨_|_|_,_⟩<;>rfl
theorem zyi {l:List MC}:seqL gl cl l (some (.norm,st))=zjd gl cl l st:=rfl
theorem z3a {l:List MC}:seqL gl cl l (some (.ret,st))=some (.ret,st):=rfl
theorem zyj {l:List MC}{i:Nat}:seqL gl cl l (some (.exit i,st))=some (.exit i,st):=rfl
theorem zkl {res:List ResD}{hk:List Nat}:zim res hk st=genK st hk (zba st res):=by
 unfold zim
 rcases zba st res with _|rs
 . rfl
 . rw[zl4,wE]
   rcases zfg st hk rs (zcg st hk rs)with _|⟨_,_,_⟩<;>rfl
def dfC (D:DfD)(gl:Gl)(cl:Cl):Cl:=fun _ as h=>zpn D gl cl (as.take D.slots.length) (as.drop D.slots.length) h
theorem qd5 {f:Nat}{as:List AV}{h:Hp}:dfC D gl cl f as h=zpn D gl cl (as.take D.slots.length) (as.drop D.slots.length) h:=rfl
def dfZ (hk:List Nat)(hp:Hp):Option (AV×Hp)->Option (AV×Hp×List OB)
 | some (v,us)=>genK {fr:=[],hp:=us++hp} hk (some [v])
 | none=>none
theorem zvd {hk:List Nat}{hp us:Hp}{v:AV}:dfZ hk hp (some (v,us))=genK {fr:=[],hp:=us++hp} hk (some [v]):=rfl
def dfF (D:DfD)(gl:Gl)(cl:Cl)(hk:List Nat):Option St->Option (AV×Hp×List OB)
 | some st=>dfZ hk st.hp (zbi (dfC D gl cl) st.hp D.d D.fS (zfl st.fr D.slots++vals gl st.fr D.dargs) (zay st.hp (AV.refss (zfl st.fr D.slots++vals gl st.fr D.dargs))))
 | none=>none
theorem zvf {hk:List Nat}:dfF D gl cl hk (some st)=dfZ hk st.hp (zbi (dfC D gl cl) st.hp D.d D.fS (zfl st.fr D.slots++vals gl st.fr D.dargs) (zay st.hp (AV.refss (zfl st.fr D.slots++vals gl st.fr D.dargs)))):=rfl
def dfA (D:DfD)(gl:Gl)(cl:Cl)(hk:List Nat):Option (Ex×St)->Option (AV×Hp×List OB)
 | some (.norm,st)=>dfF D gl cl hk (zb0 gl cl D.fos st)
 | some (.ret,st)=>genK st hk (zba st D.res)
 | _=>none
theorem zvg {hk:List Nat}:dfA D gl cl hk (some (.norm,st))=dfF D gl cl hk (zb0 gl cl D.fos st):=rfl
theorem z1w {hk:List Nat}:dfA D gl cl hk (some (.ret,st))=genK st hk (zba st D.res):=rfl
theorem z92 (hok:dfOk D=true){args:List AV}{imps:Hp}:evDf D gl cl args imps=dfA D gl cl (zca imps) (zjd gl cl D.mA {fr:=frOf 0 args,hp:=imps}):=by
 rw[evDf,if_pos hok]
 rcases zjd gl cl D.mA {fr:=frOf 0 args,hp:=imps}with _|⟨_|_|_,st⟩
 . rfl
 . rw[wE,zvg,<-zjb]
   simp only
   rcases zbq gl cl D.fos st with _|⟨st1,_⟩
   . rfl
   . simp only[wE,wF,zvf,zja]
     show wG (zbi (dfC D gl cl) _ _ _ _ _) _=_
     rcases zbi (dfC D gl cl) _ _ _ _ _ with _|⟨v,us⟩
     . rfl
     . rw[wE,zvd,zl4]
       rcases zfg _ _ _ _ with _|⟨_,_,_⟩<;>rfl
 . rfl
 . rw[wE,z1w,<-zkl]
theorem zmd {tab:Nat->Option Fd}{n f:Nat}{args:List AV}{imps:Hp}{fd:Fd}(h:tab f=some fd)(hv:fd.giv=some (evDf D):=by rfl)(hok:dfOk D=true:=by rfl) :
  call gl tab (n+1) f args imps=dfA D gl (call gl tab n) (zca imps) (zjd gl (call gl tab n) D.mA {fr:=frOf 0 args,hp:=imps}):=by
 rw[zkq h hv,z92 hok]
def dfS (D:DfD)(gl:Gl)(cl:Cl):Cl:=fun _ as h=>evFn gl cl D.fd as h
theorem qd4 {f:Nat}{as:List AV}{h:Hp}:dfS D gl cl f as h=if zi8 D.fd.pk&&mcLt D.fd.body then finG D.fd.res (zca h) (evC gl cl D.fd.body {fr:=frOf 0 as,hp:=h})else evFn gl cl D.fd as h:=by
 unfold dfS
 split
 . rename_i hc
   rw[Bool.and_eq_true]at hc
   unfold evFn
   rw[if_pos hc.1,hc.2]
   simp only[Bool.not_true,Bool.false_eq_true,if_false]
   rcases evC gl cl D.fd.body {fr:=frOf 0 as,hp:=h}with _|⟨_|_|_,st⟩
   . rfl
   . rw[zrh,<-zkl];rfl
   . rfl
   . rw[zu6,<-zkl];rfl
 . rfl
def dfY (D:DfD)(fr:Fr)(hp:Hp)(hk:List Nat):Option (AV×Hp)->Option (AV×Hp×List OB)
 | some (_,us)=>genK {fr,hp:=us++hp} hk (zba {fr,hp:=us++hp} D.res)
 | none=>none
theorem zve {fr:Fr}{hp us:Hp}{hk:List Nat}{v:AV}:dfY D fr hp hk (some (v,us))=genK {fr,hp:=us++hp} hk (zba {fr,hp:=us++hp} D.res):=rfl
def hasK (hp:Hp):List Nat->Bool
 | []=>true
 | k::l=>(hp.get k).isSome&&hasK hp l
theorem z4q {hp:Hp}:hasK hp []=true:=rfl
theorem zra {hp:Hp}{k:Nat}{l:List Nat}:hasK hp (k::l)=((hp.get k).isSome&&hasK hp l):=rfl
theorem zux {hp:Hp}:∀l:List Nat,(l.all fun k=>(hp.get k).isSome)=hasK hp l
 | []=>rfl
 | k::l=>by rw[List.all_cons,zux l,zra]
def dfE (D:DfD)(gl:Gl)(cl:Cl)(dv:List AV)(hk:List Nat)(st:St):Option (AV×Hp×List OB) :=
 if hasK st.hp hk then dfY D st.fr st.hp hk (zbi (dfS D gl cl) st.hp D.dd D.fS dv (zay st.hp (AV.refss dv)))else none
def dfB (D:DfD)(gl:Gl)(cl:Cl)(dv:List AV)(hk:List Nat):Option (Ex×St)->Option (AV×Hp×List OB)
 | some (.norm,st)=>dfE D gl cl dv hk st
 | some (.ret,st)=>dfE D gl cl dv hk st
 | _=>none
theorem z5i {dv:List AV}{hk:List Nat}:dfB D gl cl dv hk (some (.norm,st))=dfE D gl cl dv hk st:=rfl
theorem z98 {dv:List AV}{hk:List Nat}:dfB D gl cl dv hk (some (.ret,st))=dfE D gl cl dv hk st:=rfl
theorem zpm {vs dv:List AV}{hp0:Hp}:zpn D gl cl vs dv hp0=dfB D gl cl dv (zca hp0) (evC gl cl D.mB {fr:=frAt D.slots vs,hp:=hp0}):=by
 have key:∀st:St,(if(zca hp0).all fun k=>(st.hp.get k).isSome then(zbi (fun _ as h=>evFn gl cl D.fd as h) st.hp D.dd D.fS dv (zay st.hp (AV.refss dv))).bind fun q=>zim D.res (zca hp0) {fr:=st.fr,hp:=q.2++st.hp}else none)=dfE D gl cl dv (zca hp0) st:=fun st=>by
  rw[zux]
  unfold dfE
  congr 1
  show wG (zbi (dfS D gl cl) _ _ _ _ _) _=_
  rcases zbi (dfS D gl cl) _ _ _ _ _ with _|⟨_,_⟩
  . rfl
  . rw[wE,zve,<-zkl]
 rw[zpn]
 rcases evC gl cl D.mB {fr:=frAt D.slots vs,hp:=hp0}with _|⟨_|_|_,st⟩
 . rfl
 . exact key st
 . rfl
 . exact key st
theorem zqv {hp hp':Hp}{j:Nat}{s sh:Sh}:zif hp hp' j (.lst true s []) (.own sh)=some (.sl (20000+j) [] 0 0,[.grow sh []]):=rfl
attribute [go_sem] zqv z1v zxj zyi z3a zyj qd5 zvd zvf zvg z1w zve dfE z4q zra z5i z98
end Go.Ev
