/-
  For the evaluator's user: loops that may end early, and rules whose side conditions are linear. No condition.
-/
import Derived.Test.YthipjfnealbheaaGreatDoorEvS
import Derived.Test.YthipjfnealbheaaGreatDoorEvCall2
set_option linter.all false
open Nat renaming le_refl->wB,not_lt_zero->wC,sub_self->wD,not_lt->wE
open Option renaming bind_some->wF
namespace Go.Ev
open Go
noncomputable def fstN (p:Nat->Prop):Nat->Nat
 | 0=>0
 | n+1=>by classical exact if fstN p n<n then fstN p n else if p n then n+1 else n
theorem zgl (p:Nat->Prop):∀N,fstN p N<=N/\(∀i,i<fstN p N->p i)/\(fstN p N<N->¬p (fstN p N))
 | 0=>⟨wB _,fun i h=>absurd h (wC _),fun h=>absurd h (wC _)⟩
 | n+1=>by
   obtain⟨h1,h2,h3⟩:=zgl p n
   rw[fstN]
   split
   . rename_i h;exact⟨by omega,h2,fun _=>h3 h⟩
   . rename_i h
     have e:fstN p n=n:=by omega
     rw[e]at h2
     split
     . rename_i hp;exact⟨by omega,fun i hi=>by by_cases hi':i=n;exact hi'▸hp;exact h2 i (by omega),fun h=>by omega⟩
     . rename_i hp;exact⟨by omega,h2,fun _=>hp⟩
theorem zv4 {f:St->Option (Ex×St)}{ks:List Kp}(S:Nat->St)(N:Nat)(p:Nat->Prop){st:St}(hN:N<LF)(h0:zcr ks st=some (S 0))
  (hs:∀i,i<N->p i->za1 ks (f (S i))=some (S (i+1))) (hx:∀i,i<N->¬p i->isEx (f (S i))=true) (he:isEx (f (S N))=true) :
  iter f ks LF st=f (S (fstN p N)):=by
 obtain⟨h1,h2,h3⟩:=zgl p N
 refine zaj S (fstN p N) (by omega) h0 (fun i hi=>hs i (by omega) (h2 i hi)) ?_
 by_cases h:fstN p N<N
 . exact hx _ h (h3 h)
 . have:fstN p N=N:=by omega
   rw[this];exact he
theorem w64 {a:Int}(h:-9223372036854775808<=a/\a<=9223372036854775807):IntKind.wrap .i64 a=a:=zay h.1 h.2
theorem z85 (a b:Nat):((a+b:Nat):Int)=(a:Int)+(b:Int):=rfl
end Go.Ev
namespace Go.Ev
theorem qmn {a b:Int}(h:a=b):(a==b)=true:=by simp[h]
theorem qmo {a b:Int}(h:a<b\/b<a):(a==b)=false:=beq_eq_false_iff_ne.2 (by omega)
theorem qml {a b:Int}(h:a<b\/b<a):(a != b)=true:=bne_iff_ne.2 (by omega)
theorem qmm {a b:Int}(h:a=b):(a != b)=false:=by simp[h]
end Go.Ev
namespace Go.Ev
theorem qf4 {a b:Int}(h:0<=a/\0<=b):(a+b).toNat=a.toNat+b.toNat:=by omega
theorem qf3 {a b:Int}(h:0<=a/\0<=b):(a*b).toNat=a.toNat * b.toNat:=Int.toNat_mul h.1 h.2
theorem qf1 {a b:Int}(h:0<=b):(a-b).toNat=a.toNat-b.toNat:=by omega
theorem qf2 :(1:Int).toNat=1:=rfl
theorem qa9 :(0:Int).toNat=0:=rfl
end Go.Ev
namespace Go.Ev
theorem qlr {a b:Nat}(h:a<b):(a<b)=True:=eq_true h
theorem qls {a b:Nat}(h:b<=a):(a<b)=False:=eq_false (by omega)
theorem qlv {a b:Nat}(h:a<=b):(a<=b)=True:=eq_true h
theorem qlw {a b:Nat}(h:b<a):(a<=b)=False:=eq_false (by omega)
theorem qlt {a b:Int}(h:a<b):(a<b)=True:=eq_true h
theorem qhn {a b:Int}(h:b<=a):(a<b)=False:=eq_false (by omega)
theorem qlx {a b:Int}(h:a<=b):(a<=b)=True:=eq_true h
theorem qly {a b:Int}(h:b<a):(a<=b)=False:=eq_false (by omega)
theorem qmd {a b:Nat}(h:a=b):(a=b)=True:=eq_true h
theorem qme {a b:Nat}(h:a<b\/b<a):(a=b)=False:=eq_false (by omega)
theorem qmf {a b:Int}(h:a=b):(a=b)=True:=eq_true h
theorem qmg {a b:Int}(h:a<b\/b<a):(a=b)=False:=eq_false (by omega)
end Go.Ev
namespace Go.Ev
open Go
theorem z64 {f:St->Option (Ex×St)}{ks:List Kp}(I:Nat->St->Prop)(N:Nat){s0:St}(hN:N<LF)(hI:I 0 s0)
  (hs:∀i s,i<N->I i s->∃s',za1 ks (f s)=some s'/\I (i+1) s') (he:∀s,I N s->isEx (f s)=true) :
  ∃s,I N s/\∀st,zcr ks st=some s0->iter f ks LF st=f s:=by
 have key:∀(d i:Nat) (s0:St),i+d=N->I i s0->∃s,I N s/\∀n st,d<n->zcr ks st=some s0->iter f ks n st=f s:=by
  intro d
  induction d with
  | zero =>
    intro i s0 hi hI
    have:i=N:=by omega
    subst this
    refine⟨s0,hI,fun n st hn hc=> ?_⟩
    obtain⟨n,rfl⟩:∃m,n=m+1:=⟨n-1,by omega⟩
    have hx:=he s0 hI
    cases hf:f s0 with
    | none=>rw[hf]at hx;cases hx
    | some r =>
      obtain⟨e,out⟩:=r
      exact zlf hc hf (by rw[hf]at hx;cases e<;>simp_all[isEx])
  | succ d ih =>
    intro i s0 hi hI
    obtain⟨s',h1,h2⟩:=hs i s0 (by omega) hI
    unfold za1 at h1
    split at h1
    . rename_i st2 hf
      obtain⟨s,hIs,hit⟩:=ih (i+1) s' (by omega) h2
      refine⟨s,hIs,fun n st hn hc=> ?_⟩
      obtain⟨n,rfl⟩:∃m,n=m+1:=⟨n-1,by omega⟩
      rw[zmp hc hf]
      exact hit n st2 (by omega) h1
    . cases h1
 obtain⟨s,h1,h2⟩:=key N 0 s0 (by omega) hI
 exact⟨s,h1,fun st hc=>h2 LF st hN hc⟩
end Go.Ev
namespace Go.Ev
open Go
theorem xx :(∀a b:Int,0<=a/\0<=b->(a+b).toNat=a.toNat+b.toNat)/\(∀a b:Int,0<=a/\0<=b->(a*b).toNat=a.toNat * b.toNat)/\(∀a b:Int,0<=b->(a-b).toNat=a.toNat-b.toNat) /\
  (1:Int).toNat=1/\(0:Int).toNat=0/\(∀a:Int,-9223372036854775808<=a/\a<=9223372036854775807->IntKind.wrap .i64 a=a) /\
  (∀a b:Nat,a<b->(a<b)=True)/\(∀a b:Nat,b<=a->(a<b)=False)/\(∀a b:Nat,a<=b->(a<=b)=True)/\(∀a b:Nat,b<a->(a<=b)=False) /\
  (∀a b:Int,a<b->(a<b)=True)/\(∀a b:Int,b<=a->(a<b)=False)/\(∀a b:Int,a<=b->(a<=b)=True)/\(∀a b:Int,b<a->(a<=b)=False) /\
  (∀a b:Nat,a=b->(a=b)=True)/\(∀a b:Nat,a<b\/b<a->(a=b)=False)/\(∀a b:Int,a=b->(a=b)=True)/\(∀a b:Int,a<b\/b<a->(a=b)=False) /\
  (∀a b:Int,a=b->(a==b)=true)/\(∀a b:Int,a<b\/b<a->(a==b)=false)/\(∀a b:Int,a<b\/b<a->(a != b)=true)/\(∀a b:Int,a=b->(a != b)=false) /\
  (∀a b:Nat,((a+b:Nat):Int)=(a:Int)+(b:Int)) :=
 ⟨fun _ _=>qf4,fun _ _=>qf3,fun _ _=>qf1,qf2,qa9,fun _=>w64,fun _ _=>qlr,fun _ _=>qls,fun _ _=>qlv,fun _ _=>qlw,
   fun _ _=>qlt,fun _ _=>qhn,fun _ _=>qlx,fun _ _=>qly,fun _ _=>qmd,fun _ _=>qme,fun _ _=>qmf,fun _ _=>qmg,fun _ _=>qmn,fun _ _=>qmo,fun _ _=>qml,fun _ _=>qmm,fun _ _=>z85 _ _⟩
end Go.Ev
namespace Go.Ev
open Go
section
variable {hp :Hp} {d:Option Nat} {q kk c:Nat} {z x y:AV} {es:List (AV×AV×Nat)} {ok:Bool} {k:IntKind} {n:Int} {i:Nat} {v:AV} {r:Option (Nat×AV)}
theorem qkg :zbc hp (some q) .mk kk z []=if(hp.get q).isNone then some (.mp q,[(q,.mp [] 0)])else none:=rfl
def qdi (ok:Bool)(z:AV):Bool->Option (Option (Nat×AV))->Option (AV×Hp)
 | true,some r=>some (zr0 ok z r,[])
 | _,_=>none
def qdg (ok:Bool)(kk:Nat)(z x:AV):Option OB->Option (AV×Hp)
 | some (.mp es _)=>qdi ok z (ze6 kk x) (zdp x es)
 | _=>none
theorem qbw :zbc hp d (.look ok) kk z [.mp q,x]=qdg ok kk z x (hp.get q):=by
 simp only[zbc]
 rcases hp.get q with _|_|_|_|_|_<;>try rfl
 rename_i es c
 simp only[qdg]
 cases ze6 kk x<;>cases zdp x es<;>rfl
theorem z6s :qdg ok kk z x (some (.mp es c))=qdi ok z (ze6 kk x) (zdp x es):=rfl
theorem qdh :qdi ok z true (some r)=some (zr0 ok z r,[]):=rfl
theorem z6t :zr0 true z (some (i,v))= .tup [v,.bool true]:=rfl
theorem z6v :zr0 false z (some (i,v))=v:=rfl
theorem z6u :zr0 true z none= .tup [z,.bool false]:=rfl
theorem z6w :zr0 false z none=z:=rfl
def updF (q:Nat)(x y:AV)(es:List (AV×AV×Nat))(c:Nat):Bool->Bool->Option (Option (Nat×AV))->Option (AV×Hp)
 | true,true,some r=>some (.unk,[(q,updE es c x y r)])
 | _,_,_=>none
def updK (q kk:Nat)(x y:AV):Option OB->Option (AV×Hp)
 | some (.mp es c)=>updF q x y es c (ze6 kk x) y.kv (zdp x es)
 | _=>none
theorem qgh :zbc hp d .upd kk z [.mp q,x,y]=updK q kk x y (hp.get q):=by
 simp only[zbc]
 rcases hp.get q with _|_|_|_|_|_<;>try rfl
 rename_i es c
 simp only[updK]
 cases ze6 kk x<;>cases y.kv<;>cases zdp x es<;>rfl
theorem qa8 :updK q kk x y (some (.mp es c))=updF q x y es c (ze6 kk x) y.kv (zdp x es):=rfl
theorem qfz :updF q x y es c true true (some r)=some (.unk,[(q,updE es c x y r)]):=rfl
theorem z9k :updE es c x y (some (i,v))= .mp (es.set i (x,y,zm7 es i)) c:=rfl
theorem z9l :updE es c x y none= .mp (es++[(x,y,c)]) (c+1):=rfl
def entF (q:Nat)(x z:AV)(es:List (AV×AV×Nat))(c:Nat):Bool->Option (Option (Nat×AV))->Option (AV×Hp)
 | true,some r=>some (entE es c q x z r)
 | _,_=>none
def entK (q kk:Nat)(x z:AV):Option OB->Option (AV×Hp)
 | some (.mp es c)=>entF q x z es c (ze6 kk x) (zdp x es)
 | _=>none
theorem qgk :zbc hp d .ent kk z [.mp q,x]=entK q kk x z (hp.get q):=by
 simp only[zbc]
 rcases hp.get q with _|_|_|_|_|_<;>try rfl
 rename_i es c
 simp only[entK]
 cases ze6 kk x<;>cases zdp x es<;>rfl
theorem qep :entK q kk x z (some (.mp es c))=entF q x z es c (ze6 kk x) (zdp x es):=rfl
theorem qit :entF q x z es c true (some r)=some (entE es c q x z r):=rfl
theorem qiu :entE es c q x z (some (i,v))=(.tup [v,.int .i64 (zm7 es i)],[(q,.mp es c)]):=rfl
theorem qiv :entE es c q x z none=(.tup [z,.int .i64 c],[(q,.mp (es++[(x,z,c)]) (c+1))]):=rfl
def stoF (q:Nat)(y:AV)(es:List (AV×AV×Nat))(c:Nat):Bool->Option Nat->Option (AV×Hp)
 | true,some i=>some (.unk,[(q,.mp (stoE es i y) c)])
 | _,_=>none
def stoK (q:Nat)(n:Int)(y:AV):Option OB->Option (AV×Hp)
 | some (.mp es c)=>stoF q y es c y.kv (zor es n)
 | _=>none
theorem qgi :zbc hp d .sto kk z [.mp q,.int k n,y]=stoK q n y (hp.get q):=by
 simp only[zbc]
 rcases hp.get q with _|_|_|_|_|_<;>try rfl
 rename_i es c
 simp only[stoK]
 cases y.kv<;>cases zor es n<;>rfl
theorem qbf :stoK q n y (some (.mp es c))=stoF q y es c y.kv (zor es n):=rfl
theorem qf9 :stoF q y es c true (some i)=some (.unk,[(q,.mp (stoE es i y) c)]):=rfl
def delF (q:Nat)(es:List (AV×AV×Nat))(c:Nat):Bool->Option (Option (Nat×AV))->Option (AV×Hp)
 | true,some r=>some (.tup [],[(q,.mp (delE es r) c)])
 | _,_=>none
def delK (q kk:Nat)(x:AV):Option OB->Option (AV×Hp)
 | some (.mp es c)=>delF q es c (ze6 kk x) (zdp x es)
 | _=>none
theorem qgl :zbc hp d .del kk z [.mp q,x]=delK q kk x (hp.get q):=by
 simp only[zbc]
 rcases hp.get q with _|_|_|_|_|_<;>try rfl
 rename_i es c
 simp only[delK]
 cases ze6 kk x<;>cases zdp x es<;>rfl
theorem qew :delK q kk x (some (.mp es c))=delF q es c (ze6 kk x) (zdp x es):=rfl
theorem qi5 :delF q es c true (some r)=some (.tup [],[(q,.mp (delE es r) c)]):=rfl
theorem qi6 :delE es (some (i,v))=es.eraseIdx i:=rfl
theorem qi7 :delE es none=es:=rfl
def lenK :Option OB->Option (AV×Hp)
 | some (.mp es _)=>some (.int .i64 es.length,[])
 | _=>none
theorem qgj :zbc hp d .len kk z [.mp q]=lenK (hp.get q):=by
 simp only[zbc]
 rcases hp.get q with _|_|_|_|_|_<;>rfl
theorem qdm :lenK (some (.mp es c))=some (.int .i64 es.length,[]):=rfl
theorem z2c :ze6 0 (.int k n)=true:=rfl
theorem z2b {l:List UInt8}:ze6 1 (.str l)=true:=rfl
theorem qhz :(AV.int k n).kv=true:=rfl
theorem qhy {l:List UInt8}:(AV.str l).kv=true:=rfl
theorem qdn {b:Bool}:(AV.bool b).kv=true:=rfl
theorem z0q :(AV.mp q).scalar=true:=rfl
theorem z6k :(AV.mp q).plain=false:=rfl
end
attribute [go_sem] qkg qbw z6s qdh z6t z6v z6u z6w qgh qa8 qfz z9k z9l qgk qep qit qiu qiv qgi qbf qf9 qgl qew qi5 qi6 qi7 qgj qdm z2c z2b qhz qhy qdn z0q z6k
end Go.Ev
namespace Go.Ev
open Go
def symK :Bool->Option AV->AV->Option AV
 | true,r,_=>r
 | false,_,y=>some y
theorem qf5 {r:Option AV}{y:AV}:symK true r y=r:=rfl
theorem qf6 {r:Option AV}{y:AV}:symK false r y=some y:=rfl
section
variable {gl :Gl} {cl:Cl} {st:St}
theorem z2f {t:Bool}{blk:Its}{a b:Opd}:iteS gl cl true t blk a b st=symK t (iteC gl a (zbu gl cl blk st)) (b.val gl st.fr):=by cases t<;>rfl
theorem z2g {t:Bool}{blk:Its}{a b:Opd}:iteS gl cl false t blk a b st=symK (!t) (iteC gl b (zbu gl cl blk st)) (a.val gl st.fr):=by cases t<;>rfl
theorem zyl {d:Option Nat}{m:MOp}{w:Bool}{l:List FO}:zhb gl cl d m w l st (.tup [])=zb4 gl cl l (st.upd d (.tup []) []):=rfl
end
theorem z5g {t x:Bool}:symK t (some (.bool x)) (.bool false)=some (.bool (t&&x)):=by cases t<;>rfl
theorem qba {t x:Bool}:symK (!t) (some (.bool x)) (.bool true)=some (.bool (t||x)):=by cases t<;>rfl
attribute [go_sem] zyl z2f z2g qf5 qf6 z5g qba cond_true cond_false Bool.false_and Bool.and_false
theorem zfu {α:Type}{f:St->Option (Ex×St)}{ks:List Kp}(S:α->St)(Inv:α->Prop)(μ:α->Nat)(next:α->α)(go:α->Bool){a0:α}(hN:μ a0<LF)(hI:Inv a0)
  (hs:∀a,Inv a->go a=true->za1 ks (f (S a))=some (S (next a))/\Inv (next a)/\μ (next a)<μ a) (he:∀a,Inv a->go a=false->isEx (f (S a))=true) :
  ∃a,Inv a/\go a=false/\∀st,zcr ks st=some (S a0)->iter f ks LF st=f (S a):=by
 have key:∀(m n:Nat) (a:α),μ a<=m->m<n->Inv a->∃a',Inv a'/\go a'=false/\∀st,zcr ks st=some (S a)->iter f ks n st=f (S a'):=by
  intro m
  induction m with
  | zero =>
    intro n a hm hn hi
    obtain⟨n,rfl⟩:∃k,n=k+1:=⟨n-1,by omega⟩
    cases hg:go a with
    | true=>obtain⟨_,_,h3⟩:=hs a hi hg;omega
    | false =>
      refine⟨a,hi,hg,fun st hc=> ?_⟩
      have hx:=he a hi hg
      cases hf:f (S a)with
      | none=>rw[hf]at hx;cases hx
      | some r =>
        obtain⟨e,out⟩:=r
        exact zlf hc hf (by rw[hf]at hx;cases e<;>simp_all[isEx])
  | succ m ih =>
    intro n a hm hn hi
    obtain⟨n,rfl⟩:∃k,n=k+1:=⟨n-1,by omega⟩
    cases hg:go a with
    | true =>
      obtain⟨h1,h2,h3⟩:=hs a hi hg
      unfold za1 at h1
      split at h1
      . rename_i st2 hf
        obtain⟨a',g1,g2,g3⟩:=ih n (next a) (by omega) (by omega) h2
        exact⟨a',g1,g2,fun st hc=>(zmp hc hf).trans (g3 st2 h1)⟩
      . cases h1
    | false =>
      refine⟨a,hi,hg,fun st hc=> ?_⟩
      have hx:=he a hi hg
      cases hf:f (S a)with
      | none=>rw[hf]at hx;cases hx
      | some r =>
        obtain⟨e,out⟩:=r
        exact zlf hc hf (by rw[hf]at hx;cases e<;>simp_all[isEx])
 exact key (μ a0) LF a0 (wB _) hN hI
theorem z2e {f:St->Option (Ex×St)}{ks:List Kp}(S:Nat->St)(N:Nat)(p:Nat->Prop)(hN:N<LF)
  (hs:∀i,i<N->(∀j,j<i->p j)->p i->za1 ks (f (S i))=some (S (i+1))) (hx:∀i,i<N->(∀j,j<i->p j)->¬p i->isEx (f (S i))=true) (he:(∀j,j<N->p j)->isEx (f (S N))=true) :
  ∃k,k<=N/\(∀j,j<k->p j)/\(k<N->¬p k)/\∀st,zcr ks st=some (S 0)->iter f ks LF st=f (S k):=by
 obtain⟨h1,h2,h3⟩:=zgl p N
 refine⟨fstN p N,h1,h2,h3,fun st h0=>zaj S (fstN p N) (by omega) h0 (fun i hi=>hs i (by omega) (fun j hj=>h2 j (by omega)) (h2 i hi)) ?_⟩
 by_cases h:fstN p N<N
 . exact hx _ h h2 (h3 h)
 . have e:fstN p N=N:=by omega
   rw[e]at h2 ⊢;exact he h2
def out1 (t:Nat)(r:Option (Ex×St)):Option (Ex×AV):=r.map fun r=>(r.1,r.2.fr.get t)
theorem z1m {t:Nat}{e:Ex}{st:St}:out1 t (some (e,st))=some (e,st.fr.get t):=rfl
theorem zcy {t:Nat}{r:Option (Ex×St)}{v:AV}(h:out1 t r=some (.ret,v)):∃st,r=some (.ret,st)/\st.fr.get t=v:=by
 obtain _|⟨e,st⟩:=r
 . cases h
 . simp only[out1,Option.map_some,Option.some.injEq,Prod.mk.injEq]at h;exact⟨st,by rw[h.1],h.2⟩
attribute [go_sem] z1m
end Go.Ev
namespace Go.Ev
open Go
def zbb (gl:Gl)(cl:Cl)(need:List Nat):Nat->List (Nat×List Nat)->List FO->St->Option (St×List (Nat×List Nat))
 | _,acc,[],st=>some (st,acc)
 | i,acc,o::l,st =>
   match o.g with
   | none=>(zac gl cl st o.d o.m).bind fun r=>zbb gl cl need (i+1) (if need.contains i then(i,zbg gl st o.m)::acc else acc) l (st.upd o.d r.1 r.2)
   | some (c,want) =>
     match st.fr.get c with
     | .bool t=>if t=want then(zac gl cl st o.d o.m).bind fun r=>zbb gl cl need (i+1) (if need.contains i then(i,zbg gl st o.m)::acc else acc) l (st.upd o.d r.1 r.2)else zbb gl cl need (i+1) acc l (st.upd o.d (.tup []) [])
     | .tup []=>zbb gl cl need (i+1) acc l (st.upd o.d (.tup []) [])
     | _=>none
def lk :List (Nat×List Nat)->Nat->List Nat
 | [],_=>[]
 | p::r,j=>if p.1=j then p.2 else lk r j
def zne :List (Nat×Nat)->List Nat
 | []=>[]
 | p::r=>p.1::p.2::zne r
theorem zrz :∀{prs:List (Nat×Nat)} {p:Nat×Nat},p∈prs->p.1∈zne prs/\p.2∈zne prs
 | _::r,p,h=>by
   rcases List.mem_cons.1 h with rfl|h
   . simp[zne]
   . have:=zrz h;simp[zne,this]
def Nt (need:List Nat)(i:Nat)(acc:List (Nat×List Nat))(ks:List (List Nat))(acc':List (Nat×List Nat)):Prop :=
 ∀j,need.contains j=true->lk acc' j=if i<=j/\lk acc j=[]then ks.getD (j-i) []else lk acc j
variable {gl :Gl} {cl:Cl} {st:St}
theorem zp9 {need:List Nat}:∀(l:List FO) (i:Nat) (acc:List (Nat×List Nat)) (st:St),(∀j,i<=j->lk acc j=[]) ->
  match zbw gl cl l st,zbb gl cl need i acc l st with
  | some (s,ks),some (s',acc')=>s=s'/\Nt need i acc ks acc'
  | none,none=>True
  | _,_=>False
 | [],i,acc,st,h=>by
   simp only[zbw,zbb]
   refine⟨trivial,fun j hj=> ?_⟩
   split
   . rename_i h2;simp[h2.2]
   . rfl
 | o::l,i,acc,st,h=>by
   obtain⟨d,m,g⟩:=o
   have step:∀(kk:List Nat) (st':St),match (zbw gl cl l st').map (fun q=>(q.1,kk::q.2)),zbb gl cl need (i+1) (if need.contains i then(i,kk)::acc else acc) l st' with
     | some (s,ks),some (s',acc')=>s=s'/\Nt need i acc ks acc'
     | none,none=>True
     | _,_=>False:=fun kk st'=>by
    have ih:=zp9 (need:=need) l (i+1) (if need.contains i then(i,kk)::acc else acc) st' (fun j hj=>by
     split
     . rw[lk,if_neg (show ¬i=j by omega)];exact h j (by omega)
     . exact h j (by omega))
    revert ih
    cases zbw gl cl l st' with
    | none=>cases zbb gl cl need (i+1) (if need.contains i then(i,kk)::acc else acc) l st'<;>exact id
    | some q =>
      cases zbb gl cl need (i+1) (if need.contains i then(i,kk)::acc else acc) l st' with
      | none=>exact id
      | some q' =>
        rintro ⟨h1,h2⟩
        refine⟨h1,fun j hj=> ?_⟩
        rw[h2 j hj]
        by_cases hij:i=j
        . subst hij
          rw[if_neg (by omega),hj,if_pos rfl,lk,if_pos rfl,if_pos ⟨wB _,h i (wB _)⟩,wD];rfl
        . have e:lk (if need.contains i then(i,kk)::acc else acc) j=lk acc j:=by
           split
           . rw[lk,if_neg hij]
           . rfl
          rw[e]
          by_cases h3:i<=j
          . have h4:=h j h3
            rw[if_pos ⟨by omega,h4⟩,if_pos ⟨h3,h4⟩,show j-i=(j-(i+1))+1 by omega];rfl
          . rw[if_neg (by omega),if_neg (by omega)]
   have skip:∀(st':St),match (zbw gl cl l st').map (fun q=>(q.1,([]:List Nat)::q.2)),zbb gl cl need (i+1) acc l st' with
     | some (s,ks),some (s',acc')=>s=s'/\Nt need i acc ks acc'
     | none,none=>True
     | _,_=>False:=fun st'=>by
    have ih:=zp9 (need:=need) l (i+1) acc st' (fun j hj=>h j (by omega))
    revert ih
    cases zbw gl cl l st' with
    | none=>cases zbb gl cl need (i+1) acc l st'<;>exact id
    | some q =>
      cases zbb gl cl need (i+1) acc l st' with
      | none=>exact id
      | some q' =>
        rintro ⟨h1,h2⟩
        refine⟨h1,fun j hj=> ?_⟩
        rw[h2 j hj]
        by_cases hij:i=j
        . subst hij
          have h4:=h i (wB _)
          rw[if_neg (by omega),if_pos ⟨wB _,h4⟩,wD];exact h4
        . by_cases h3:i<=j
          . have h4:=h j h3
            rw[if_pos ⟨by omega,h4⟩,if_pos ⟨h3,h4⟩,show j-i=(j-(i+1))+1 by omega];rfl
          . rw[if_neg (by omega),if_neg (by omega)]
   cases g with
   | none =>
     simp only[zbw,zbb]
     cases zac gl cl st d m with
     | none=>trivial
     | some r=>exact step _ _
   | some p =>
     obtain⟨c,want⟩:=p
     simp only[zbw,zbb]
     cases st.fr.get c with
     | bool t =>
       by_cases ht:t=want
       . simp only[ht,if_true]
         cases zac gl cl st d m with
         | none=>trivial
         | some r=>exact step _ _
       . simp only[ht,if_false];exact skip _
     | tup r=>cases r with
       | nil=>exact skip _
       | cons=>trivial
     | _=>trivial
def zza (acc:List (Nat×List Nat)):List (Nat×Nat)->Bool
 | []=>true
 | p::r=>disj (lk acc p.1) (lk acc p.2)&&zza acc r
def z34 (prs:List (Nat×Nat)):Option (St×List (Nat×List Nat))->Option (Ex×St)
 | some (st,acc)=>if zza acc prs then some (.norm,st)else none
 | none=>none
def zof (gl:Gl)(cl:Cl)(need:List Nat)(i:Nat)(acc:List (Nat×List Nat))(d:Option Nat)(m:MOp)(l:List FO)(st:St):Option (AV×Hp)->Option (St×List (Nat×List Nat))
 | some (v,us)=>zbb gl cl need (i+1) (if need.contains i then(i,zbg gl st m)::acc else acc) l (st.upd d v us)
 | none=>none
def zea (gl:Gl)(cl:Cl)(need:List Nat)(i:Nat)(acc:List (Nat×List Nat))(d:Option Nat)(m:MOp)(w:Bool)(l:List FO)(st:St):AV->Option (St×List (Nat×List Nat))
 | .bool t=>if t=w then zof gl cl need i acc d m l st (zac gl cl st d m)else zbb gl cl need (i+1) acc l (st.upd d (.tup []) [])
 | .tup []=>zbb gl cl need (i+1) acc l (st.upd d (.tup []) [])
 | _=>none
theorem zwo {acc:List (Nat×List Nat)}{ks:List (List Nat)}{need:List Nat}(h:Nt need 0 [] ks acc):∀prs:List (Nat×Nat),(∀p∈prs,p.1∈need/\p.2∈need) ->
  zza acc prs=prs.all fun p=>disj (ks.getD p.1 []) (ks.getD p.2 [])
 | [],_=>rfl
 | p::r,hp=>by
   obtain⟨h1,h2⟩:=hp p (by simp)
   have e1:=h p.1 (by simpa using h1)
   have e2:=h p.2 (by simpa using h2)
   rw[if_pos ⟨Nat.zero_le _,rfl⟩,Nat.sub_zero]at e1 e2
   rw[zza,List.all_cons,e1,e2,zwo h r fun q hq=>hp q (by simp[hq])]
theorem z3v {l:List FO}{p:Nat×Nat}{prs:List (Nat×Nat)}:evC gl cl (.draw l (p::prs)) st=z34 (p::prs) (zbb gl cl (zne (p::prs)) 0 [] l st):=by
 rw[evC]
 have h:=zp9 (gl:=gl) (cl:=cl) (need:=zne (p::prs)) l 0 [] st (fun _ _=>rfl)
 revert h
 cases zbw gl cl l st with
 | none=>cases zbb gl cl (zne (p::prs)) 0 [] l st<;>simp[z34]
 | some q =>
   cases zbb gl cl (zne (p::prs)) 0 [] l st with
   | none=>exact False.elim
   | some q' =>
     rintro ⟨h1,h2⟩
     simp only[wF,z34,zwo h2 _ fun x hx=>zrz hx,h1]
section
variable {need :List Nat} {i:Nat} {acc:List (Nat×List Nat)} {d:Option Nat} {m:MOp} {l:List FO}
theorem zug :zbb gl cl need i acc [] st=some (st,acc):=by rw[zbb]
theorem zy6 :zbb gl cl need i acc (⟨d,m,none⟩::l) st=zof gl cl need i acc d m l st (zac gl cl st d m):=by
 rw[zbb];rcases zac gl cl st d m with _|⟨_,_⟩<;>rfl
theorem zqc {c:Nat}{w:Bool}:zbb gl cl need i acc (⟨d,m,some (c,w)⟩::l) st=zea gl cl need i acc d m w l st (st.fr.get c):=by
 rw[zbb]
 simp only
 generalize st.fr.get c=v
 cases v with
 | bool t =>
   simp only[zea]
   by_cases h:t=w
   . simp only[h,if_true];rcases zac gl cl st d m with _|⟨_,_⟩<;>rfl
   . simp only[h,if_false]
 | tup l=>cases l<;>rfl
 | _=>rfl
theorem zuf {v:AV}{us:Hp}:zof gl cl need i acc d m l st (some (v,us))=zbb gl cl need (i+1) (if need.contains i then(i,zbg gl st m)::acc else acc) l (st.upd d v us):=by rw[zof]
theorem zyh :zea gl cl need i acc d m true l st (.bool true)=zof gl cl need i acc d m l st (zac gl cl st d m):=by rw[zea,if_pos rfl]
theorem zyk :zea gl cl need i acc d m false l st (.bool false)=zof gl cl need i acc d m l st (zac gl cl st d m):=by rw[zea,if_pos rfl]
theorem zyi :zea gl cl need i acc d m true l st (.bool false)=zbb gl cl need (i+1) acc l (st.upd d (.tup []) []):=by rw[zea,if_neg (by decide)]
theorem zyj :zea gl cl need i acc d m false l st (.bool true)=zbb gl cl need (i+1) acc l (st.upd d (.tup []) []):=by rw[zea,if_neg (by decide)]
theorem zua {w:Bool}:zea gl cl need i acc d m w l st (.tup [])=zbb gl cl need (i+1) acc l (st.upd d (.tup []) []):=by rw[zea]
theorem zy8 {prs:List (Nat×Nat)}:z34 prs (some (st,acc))=if zza acc prs then some (.norm,st)else none:=by rw[z34]
end
theorem qhu {j:Nat}:lk [] j=[]:=by rw[lk]
theorem qdj {p:Nat×List Nat}{r:List (Nat×List Nat)}{j:Nat}:lk (p::r) j=if p.1=j then p.2 else lk r j:=by rw[lk]
theorem z8w {b:List Nat}:disj [] b=true:=rfl
theorem z39 {a:Nat}{l b:List Nat}:disj (a::l) b=(!b.contains a&&disj l b):=rfl
attribute [go_sem] z3v zug zy6 zqc zuf zyh zyk zyi zyj zua zy8 qhu qdj zza z8w z39 zne zbg MOp.opds Option.toList
end Go.Ev
namespace Go.Ev
open Go
variable {gl :Gl} {cl:Cl} {st:St}
def rfE (fr:Fr)(hp:Hp)(kd:Nat):Option OB->Option (Ex×St)
 | some (.lp _ _ .ready)=>some (.norm,{fr,hp:=(kd,.dead)::hp})
 | some (.lp _ _ (.done e))=>some (e,{fr,hp:=(kd,.dead)::hp})
 | _=>none
def rfK (fr:Fr)(kd:Nat)(hp:Hp):Option (AV×Hp)->Option (Ex×St)
 | some (_,us)=>rfE fr (us++hp) kd (Hp.get (us++hp) kd)
 | none=>none
theorem zy7 {rid:Nat}{g:Opd}{slots:List Nat}{kd dc:Nat}:evC gl cl (.rangeF rid g slots kd dc) st=evRf cl rid slots kd dc st (g.val gl st.fr):=by rw[evC]
def zfw (fr:Fr):List Nat->List AV
 | []=>[]
 | i::l=>fr.get i::zfw fr l
theorem zoc {fr:Fr}:∀{l:List Nat},l.map fr.get=zfw fr l
 | []=>rfl
 | i::l=>by rw[List.map_cons,zfw,zoc]
theorem qi8 {f:Nat}(h:f<2000000):cvF f=f:=if_pos h
theorem qi9 {f:Nat}(h:2000000<=f):cvF f=f-2000000:=if_neg (wE.2 h)
theorem qja {f:Nat}{a c:List AV}(h:f<2000000):cvA f a c=a++c:=if_pos h
theorem qjb {f:Nat}{a c:List AV}(h:2000000<=f):cvA f a c=c++a:=if_neg (wE.2 h)
theorem qek {rid:Nat}{slots:List Nat}{kd dc h:Nat}{caps:List AV}:evRf cl rid slots kd dc st (.fn h caps) =
  if(st.hp.get kd).isNone&&decide (kd<SHK)&&decide (h<RB)then rfK st.fr kd ((kd,.lp rid (zfw st.fr slots) .ready)::st.hp) (zb1 cl ((kd,.lp rid (zfw st.fr slots) .ready)::st.hp) dc h (.yld kd::caps) (zaw ((kd,.lp rid (zfw st.fr slots) .ready)::st.hp) (kd::AV.refss caps)))else none:=by
 rw[evRf,zoc]
 split
 . cases zb1 cl ((kd,.lp rid (zfw st.fr slots) .ready)::st.hp) dc h (.yld kd::caps) (zaw ((kd,.lp rid (zfw st.fr slots) .ready)::st.hp) (kd::AV.refss caps))with
   | none=>rfl
   | some r=>simp only[wF,rfK,qce,rfE];rfl
 . rfl
theorem z52 {fr:Fr}{kd:Nat}{hp:Hp}{r:AV}{us:Hp}:rfK fr kd hp (some (r,us))=rfE fr (us++hp) kd (Hp.get (us++hp) kd):=by rw[rfK]
theorem z07 {fr:Fr}{hp:Hp}{kd rid:Nat}{vals:List AV}:rfE fr hp kd (some (.lp rid vals .ready))=some (.norm,{fr,hp:=(kd,.dead)::hp}):=by rw[rfE]
theorem z53 {fr:Fr}{hp:Hp}{kd rid:Nat}{vals:List AV}{e:Ex}:rfE fr hp kd (some (.lp rid vals (.done e)))=some (e,{fr,hp:=(kd,.dead)::hp}):=by rw[rfE]
def drK (cl:Cl)(hp:Hp)(d q:Nat)(args:List AV):Option OB->Option (AV×Hp)
 | some (.lp rid _ .ready)=>zb1 cl hp d (RB+rid) args (zaw hp (q::AV.refss args))
 | _=>none
theorem z36 {hp:Hp}{d q:Nat}{args:List AV}:zgn cl hp d q args .imp=drK cl hp d q args (hp.get q):=by
 simp only[zgn]
 rcases hp.get q with _|_|_|_|⟨_,_,_|_|_⟩<;>rfl
theorem z35 {hp:Hp}{d q:Nat}{args:List AV}{rid:Nat}{vals:List AV}:drK cl hp d q args (some (.lp rid vals .ready))=zb1 cl hp d (RB+rid) args (zaw hp (q::AV.refss args)):=by rw[drK]
def rndC (e:Ex):Option (List AV×Hp×List OB)->Option (AV×Hp×List OB)
 | some (_,hp,es)=>some (.bool (decide (e= .norm)),hp,es)
 | none=>none
def zpd (ks:List Nat)(e:Ex)(st:St):Option OB->Option (AV×Hp×List OB)
 | some (.lp r v .busy)=>rndC e (zfr {fr:=st.fr,hp:=(SHK,.lp r v (if e= .norm then .ready else .done e))::st.hp} ks [] (zcw {fr:=st.fr,hp:=(SHK,.lp r v (if e= .norm then .ready else .done e))::st.hp} ks []))
 | _=>none
def rndB (ks:List Nat):Option (Ex×St)->Option (AV×Hp×List OB)
 | some (e,st)=>zpd ks e st (Hp.get st.hp SHK)
 | none=>none
def z01 (gl:Gl)(cl:Cl)(body:MC)(ks:List Nat)(st:St):Option OB->Option (AV×Hp×List OB)
 | some (.lp r v .ready)=>rndB ks (evC gl cl body {fr:=st.fr,hp:=(SHK,.lp r v .busy)::st.hp})
 | _=>none
def rndA (gl:Gl)(cl:Cl)(body:MC)(ks:List Nat):Option (Ex×St)->Option (AV×Hp×List OB)
 | some (.norm,st)=>z01 gl cl body ks st (Hp.get st.hp SHK)
 | _=>none
theorem z8j {params slots:List Nat}{as body:MC}{args:List AV}{q rid:Nat}{vals:List AV}{r:Hp}:zqb params slots as body gl cl args ((q,.lp rid vals .ready)::r) =
  if decide (q=SHK)&&decide (args.length=params.length)&&zgt params&&mcLt as&&mcLt body&& !zck as&& !zck body then
   rndA gl cl body (q::zcq r) (evC gl cl as {fr:=frAt params args++frAt slots vals,hp:=(q,.lp rid vals .ready)::r})else none:=by
 rw[zqb]
 simp only
 split
 . cases evC gl cl as {fr:=frAt params args++frAt slots vals,hp:=(q,.lp rid vals .ready)::r}with
   | none=>rfl
   | some a =>
     obtain⟨e,sa⟩:=a
     cases e with
     | norm =>
       simp only[wF,rndA]
       rcases hk:Hp.get sa.hp SHK with _|_|_|_|⟨r1,v1,_|_|_⟩<;>simp only[z01]
       cases evC gl cl body {fr:=sa.fr,hp:=(SHK,.lp r1 v1 .busy)::sa.hp}with
       | none=>rfl
       | some b =>
         obtain⟨eb,sb⟩:=b
         simp only[wF,rndB]
         rcases hk2:Hp.get sb.hp SHK with _|_|_|_|⟨r2,v2,_|_|_⟩<;>simp only[zpd,zcq]
         rcases zfr _ _ _ _ with _|⟨_,_,_⟩<;>rfl
     | exit id=>rfl
     | ret=>rfl
 . rfl
theorem z00 {body:MC}{ks:List Nat}:rndA gl cl body ks (some (.norm,st))=z01 gl cl body ks st (Hp.get st.hp SHK):=by rw[rndA]
theorem ztn {body:MC}{ks:List Nat}{r:Nat}{v:List AV}:z01 gl cl body ks st (some (.lp r v .ready))=rndB ks (evC gl cl body {fr:=st.fr,hp:=(SHK,.lp r v .busy)::st.hp}):=by rw[z01]
theorem z0y {ks:List Nat}{e:Ex}:rndB ks (some (e,st))=zpd ks e st (Hp.get st.hp SHK):=by rw[rndB]
theorem zxn {ks:List Nat}{r:Nat}{v:List AV}:zpd ks .norm st (some (.lp r v .busy))=rndC .norm (zfr {fr:=st.fr,hp:=(SHK,.lp r v .ready)::st.hp} ks [] (zcw {fr:=st.fr,hp:=(SHK,.lp r v .ready)::st.hp} ks [])):=by simp only[zpd,if_true]
theorem z0z {ks:List Nat}{r:Nat}{v:List AV}:zpd ks .ret st (some (.lp r v .busy))=rndC .ret (zfr {fr:=st.fr,hp:=(SHK,.lp r v (.done .ret))::st.hp} ks [] (zcw {fr:=st.fr,hp:=(SHK,.lp r v (.done .ret))::st.hp} ks [])):=by
 simp only[zpd,if_neg (show ¬Ex.ret= .norm by decide)]
theorem zxo {ks:List Nat}{r i:Nat}{v:List AV}:zpd ks (.exit i) st (some (.lp r v .busy))=rndC (.exit i) (zfr {fr:=st.fr,hp:=(SHK,.lp r v (.done (.exit i)))::st.hp} ks [] (zcw {fr:=st.fr,hp:=(SHK,.lp r v (.done (.exit i)))::st.hp} ks [])):=by
 simp only[zpd,if_neg (show ¬Ex.exit i= .norm by simp)]
theorem z0w {l:List AV}{hp:Hp}{es:List OB}:rndC .norm (some (l,hp,es))=some (.bool true,hp,es):=by simp[rndC]
theorem z5x {l:List AV}{hp:Hp}{es:List OB}:rndC .ret (some (l,hp,es))=some (.bool false,hp,es):=by simp[rndC]
theorem z0x {i:Nat}{l:List AV}{hp:Hp}{es:List OB}:rndC (.exit i) (some (l,hp,es))=some (.bool false,hp,es):=by simp[rndC]
attribute [go_sem] zy7 qek zfw z52 z07 z53 z36 z35 zjg qi8 qi9 qja qjb z8j z00 ztn z0y zxn z0z zxo z0w z5x z0x frAt mcLt zr6 ltO ksLt zck
end Go.Ev
namespace Go.Ev
open Go
variable {gl :Gl} {cl:Cl} {st:St} {D:DfD}
def seqL (gl:Gl)(cl:Cl)(l:List MC):Option (Ex×St)->Option (Ex×St)
 | some (.norm,st)=>zng gl cl l st
 | r=>r
theorem z4d :zng gl cl [] st=some (.norm,st):=rfl
theorem zzb {m:MC}{l:List MC}:zng gl cl (m::l) st=seqL gl cl l (evC gl cl m st):=by
 rw[zng]
 rcases evC gl cl m st with _|⟨_|_|_,_⟩<;>rfl
theorem z0l {l:List MC}:seqL gl cl l (some (.norm,st))=zng gl cl l st:=rfl
theorem z5o {l:List MC}:seqL gl cl l (some (.ret,st))=some (.ret,st):=rfl
theorem z0m {l:List MC}{i:Nat}:seqL gl cl l (some (.exit i,st))=some (.exit i,st):=rfl
def dfC (D:DfD)(gl:Gl)(cl:Cl):Cl:=fun _ as h=>z8l D gl cl (as.take D.slots.length) (as.drop D.slots.length) h
theorem qi4 {f:Nat}{as:List AV}{h:Hp}:dfC D gl cl f as h=z8l D gl cl (as.take D.slots.length) (as.drop D.slots.length) h:=rfl
def dfZ (hk:List Nat)(hp:Hp):Option (AV×Hp)->Option (AV×Hp×List OB)
 | some (v,us)=>genK {fr:=[],hp:=us++hp} hk (some [v])
 | none=>none
theorem z8y {hk:List Nat}{hp us:Hp}{v:AV}:dfZ hk hp (some (v,us))=genK {fr:=[],hp:=us++hp} hk (some [v]):=rfl
def dfF (D:DfD)(gl:Gl)(cl:Cl)(hk:List Nat):Option St->Option (AV×Hp×List OB)
 | some st=>dfZ hk st.hp (zb1 (dfC D gl cl) st.hp D.d D.fS (zfw st.fr D.slots++vals gl st.fr D.dargs) (zaw st.hp (AV.refss (zfw st.fr D.slots++vals gl st.fr D.dargs))))
 | none=>none
theorem z80 {hk:List Nat}:dfF D gl cl hk (some st)=dfZ hk st.hp (zb1 (dfC D gl cl) st.hp D.d D.fS (zfw st.fr D.slots++vals gl st.fr D.dargs) (zaw st.hp (AV.refss (zfw st.fr D.slots++vals gl st.fr D.dargs)))):=rfl
def dfA (D:DfD)(gl:Gl)(cl:Cl)(hk:List Nat):Option (Ex×St)->Option (AV×Hp×List OB)
 | some (.norm,st)=>dfF D gl cl hk (zb4 gl cl D.fos st)
 | some (.ret,st)=>genK st hk (zbf st D.res)
 | _=>none
theorem z82 {hk:List Nat}:dfA D gl cl hk (some (.norm,st))=dfF D gl cl hk (zb4 gl cl D.fos st):=rfl
theorem qev {hk:List Nat}:dfA D gl cl hk (some (.ret,st))=genK st hk (zbf st D.res):=rfl
def dfS (D:DfD)(gl:Gl)(cl:Cl):Cl:=fun _ as h=>evFn gl cl D.fd as h
def dfY (D:DfD)(fr:Fr)(hp:Hp)(hk:List Nat):Option (AV×Hp)->Option (AV×Hp×List OB)
 | some (_,us)=>genK {fr,hp:=us++hp} hk (zbf {fr,hp:=us++hp} D.res)
 | none=>none
theorem z8z {fr:Fr}{hp us:Hp}{hk:List Nat}{v:AV}:dfY D fr hp hk (some (v,us))=genK {fr,hp:=us++hp} hk (zbf {fr,hp:=us++hp} D.res):=rfl
def hasK (hp:Hp):List Nat->Bool
 | []=>true
 | k::l=>(hp.get k).isSome&&hasK hp l
theorem z7f {hp:Hp}:hasK hp []=true:=rfl
theorem z2u {hp:Hp}{k:Nat}{l:List Nat}:hasK hp (k::l)=((hp.get k).isSome&&hasK hp l):=rfl
def dfE (D:DfD)(gl:Gl)(cl:Cl)(dv:List AV)(hk:List Nat)(st:St):Option (AV×Hp×List OB) :=
 if hasK st.hp hk then dfY D st.fr st.hp hk (zb1 (dfS D gl cl) st.hp D.dd D.fS dv (zaw st.hp (AV.refss dv)))else none
def dfB (D:DfD)(gl:Gl)(cl:Cl)(dv:List AV)(hk:List Nat):Option (Ex×St)->Option (AV×Hp×List OB)
 | some (.norm,st)=>dfE D gl cl dv hk st
 | some (.ret,st)=>dfE D gl cl dv hk st
 | _=>none
theorem z81 {dv:List AV}{hk:List Nat}:dfB D gl cl dv hk (some (.norm,st))=dfE D gl cl dv hk st:=rfl
theorem qeu {dv:List AV}{hk:List Nat}:dfB D gl cl dv hk (some (.ret,st))=dfE D gl cl dv hk st:=rfl
theorem zrr {hp hp':Hp}{j:Nat}{s sh:Sh}:zi2 hp hp' j (.lst true s []) (.own sh)=some (.sl (20000+j) [] 0 0,[.grow sh []]):=rfl
attribute [go_sem] zrr z4d zzb z0l z5o z0m qi4 z8y z80 z82 qev z8z dfE z7f z2u z81 qeu
end Go.Ev
