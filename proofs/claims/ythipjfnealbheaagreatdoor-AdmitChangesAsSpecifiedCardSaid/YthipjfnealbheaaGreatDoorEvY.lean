/-
  For the evaluator's user: loops that may end early, and rules whose side conditions are linear. No condition.
-/
import Derived.Test.YthipjfnealbheaaGreatDoorEvS
import Derived.Test.YthipjfnealbheaaGreatDoorEvCall2
set_option linter.all false
open Nat renaming le_refl->wB,not_lt_zero->wC,sub_self->wD,not_lt->wE
open Option renaming bind_some->wF
namespace Go.Ev
open Go
noncomputable def fstN (p:Nat->Prop):Nat->Nat
 | 0=>0
 | n+1=>by classical exact if fstN p n<n then fstN p n else if p n then n+1 else n
theorem zgi (p:Nat->Prop):∀N,fstN p N<=N/\(∀i,i<fstN p N->p i)/\(fstN p N<N->¬p (fstN p N))
 | 0=>⟨wB _,fun i h=>absurd h (wC _),fun h=>absurd h (wC _)⟩
 | n+1=>by
   obtain⟨h1,h2,h3⟩:=zgi p n
   rw[fstN]
   split
   . rename_i h;exact⟨by omega,h2,fun _=>h3 h⟩
   . rename_i h
     have e:fstN p n=n:=by omega
     rw[e]at h2
     split
     . rename_i hp;exact⟨by omega,fun i hi=>by by_cases hi':i=n;exact hi'▸hp;exact h2 i (by omega),fun h=>by omega⟩
     . rename_i hp;exact⟨by omega,h2,fun _=>hp⟩
theorem zvl {f:St->Option (Ex×St)}{ks:List Kp}(S:Nat->St)(N:Nat)(p:Nat->Prop){st:St}(hN:N<LF)(h0:zc2 ks st=some (S 0))
  (hs:∀i,i<N->p i->zba ks (f (S i))=some (S (i+1))) (hx:∀i,i<N->¬p i->isEx (f (S i))=true) (he:isEx (f (S N))=true) :
  iter f ks LF st=f (S (fstN p N)):=by
 obtain⟨h1,h2,h3⟩:=zgi p N
 refine zaj S (fstN p N) (by omega) h0 (fun i hi=>hs i (by omega) (h2 i hi)) ?_
 by_cases h:fstN p N<N
 . exact hx _ h (h3 h)
 . have:fstN p N=N:=by omega
   rw[this];exact he
theorem w64 {a:Int}(h:-9223372036854775808<=a/\a<=9223372036854775807):IntKind.wrap .i64 a=a:=zaw h.1 h.2
theorem z8d (a b:Nat):((a+b:Nat):Int)=(a:Int)+(b:Int):=rfl
end Go.Ev
namespace Go.Ev
theorem qlg {a b:Int}(h:a=b):(a==b)=true:=by simp[h]
theorem qlh {a b:Int}(h:a<b\/b<a):(a==b)=false:=beq_eq_false_iff_ne.2 (by omega)
theorem qle {a b:Int}(h:a<b\/b<a):(a != b)=true:=bne_iff_ne.2 (by omega)
theorem qlf {a b:Int}(h:a=b):(a != b)=false:=by simp[h]
end Go.Ev
namespace Go.Ev
theorem qe6 {a b:Int}(h:0<=a/\0<=b):(a+b).toNat=a.toNat+b.toNat:=by omega
theorem qe5 {a b:Int}(h:0<=a/\0<=b):(a*b).toNat=a.toNat * b.toNat:=Int.toNat_mul h.1 h.2
theorem qe3 {a b:Int}(h:0<=b):(a-b).toNat=a.toNat-b.toNat:=by omega
theorem qe4 :(1:Int).toNat=1:=rfl
theorem qaf :(0:Int).toNat=0:=rfl
end Go.Ev
namespace Go.Ev
theorem qkn {a b:Nat}(h:a<b):(a<b)=True:=eq_true h
theorem qko {a b:Nat}(h:b<=a):(a<b)=False:=eq_false (by omega)
theorem qkr {a b:Nat}(h:a<=b):(a<=b)=True:=eq_true h
theorem qks {a b:Nat}(h:b<a):(a<=b)=False:=eq_false (by omega)
theorem qkp {a b:Int}(h:a<b):(a<b)=True:=eq_true h
theorem qgt {a b:Int}(h:b<=a):(a<b)=False:=eq_false (by omega)
theorem qkt {a b:Int}(h:a<=b):(a<=b)=True:=eq_true h
theorem qku {a b:Int}(h:b<a):(a<=b)=False:=eq_false (by omega)
theorem qk6 {a b:Nat}(h:a=b):(a=b)=True:=eq_true h
theorem qk7 {a b:Nat}(h:a<b\/b<a):(a=b)=False:=eq_false (by omega)
theorem qk8 {a b:Int}(h:a=b):(a=b)=True:=eq_true h
theorem qk9 {a b:Int}(h:a<b\/b<a):(a=b)=False:=eq_false (by omega)
end Go.Ev
namespace Go.Ev
open Go
theorem z6h {f:St->Option (Ex×St)}{ks:List Kp}(I:Nat->St->Prop)(N:Nat){s0:St}(hN:N<LF)(hI:I 0 s0)
  (hs:∀i s,i<N->I i s->∃s',zba ks (f s)=some s'/\I (i+1) s') (he:∀s,I N s->isEx (f s)=true) :
  ∃s,I N s/\∀st,zc2 ks st=some s0->iter f ks LF st=f s:=by
 have key:∀(d i:Nat) (s0:St),i+d=N->I i s0->∃s,I N s/\∀n st,d<n->zc2 ks st=some s0->iter f ks n st=f s:=by
  intro d
  induction d with
  | zero =>
    intro i s0 hi hI
    have:i=N:=by omega
    subst this
    refine⟨s0,hI,fun n st hn hc=> ?_⟩
    obtain⟨n,rfl⟩:∃m,n=m+1:=⟨n-1,by omega⟩
    have hx:=he s0 hI
    cases hf:f s0 with
    | none=>rw[hf]at hx;cases hx
    | some r =>
      obtain⟨e,out⟩:=r
      exact zk3 hc hf (by rw[hf]at hx;cases e<;>simp_all[isEx])
  | succ d ih =>
    intro i s0 hi hI
    obtain⟨s',h1,h2⟩:=hs i s0 (by omega) hI
    unfold zba at h1
    split at h1
    . rename_i st2 hf
      obtain⟨s,hIs,hit⟩:=ih (i+1) s' (by omega) h2
      refine⟨s,hIs,fun n st hn hc=> ?_⟩
      obtain⟨n,rfl⟩:∃m,n=m+1:=⟨n-1,by omega⟩
      rw[zmb hc hf]
      exact hit n st2 (by omega) h1
    . cases h1
 obtain⟨s,h1,h2⟩:=key N 0 s0 (by omega) hI
 exact⟨s,h1,fun st hc=>h2 LF st hN hc⟩
end Go.Ev
namespace Go.Ev
open Go
theorem xx :(∀a b:Int,0<=a/\0<=b->(a+b).toNat=a.toNat+b.toNat)/\(∀a b:Int,0<=a/\0<=b->(a*b).toNat=a.toNat * b.toNat)/\(∀a b:Int,0<=b->(a-b).toNat=a.toNat-b.toNat) /\
  (1:Int).toNat=1/\(0:Int).toNat=0/\(∀a:Int,-9223372036854775808<=a/\a<=9223372036854775807->IntKind.wrap .i64 a=a) /\
  (∀a b:Nat,a<b->(a<b)=True)/\(∀a b:Nat,b<=a->(a<b)=False)/\(∀a b:Nat,a<=b->(a<=b)=True)/\(∀a b:Nat,b<a->(a<=b)=False) /\
  (∀a b:Int,a<b->(a<b)=True)/\(∀a b:Int,b<=a->(a<b)=False)/\(∀a b:Int,a<=b->(a<=b)=True)/\(∀a b:Int,b<a->(a<=b)=False) /\
  (∀a b:Nat,a=b->(a=b)=True)/\(∀a b:Nat,a<b\/b<a->(a=b)=False)/\(∀a b:Int,a=b->(a=b)=True)/\(∀a b:Int,a<b\/b<a->(a=b)=False) /\
  (∀a b:Int,a=b->(a==b)=true)/\(∀a b:Int,a<b\/b<a->(a==b)=false)/\(∀a b:Int,a<b\/b<a->(a != b)=true)/\(∀a b:Int,a=b->(a != b)=false) /\
  (∀a b:Nat,((a+b:Nat):Int)=(a:Int)+(b:Int)) :=
 ⟨fun _ _=>qe6,fun _ _=>qe5,fun _ _=>qe3,qe4,qaf,fun _=>w64,fun _ _=>qkn,fun _ _=>qko,fun _ _=>qkr,fun _ _=>qks,
   fun _ _=>qkp,fun _ _=>qgt,fun _ _=>qkt,fun _ _=>qku,fun _ _=>qk6,fun _ _=>qk7,fun _ _=>qk8,fun _ _=>qk9,fun _ _=>qlg,fun _ _=>qlh,fun _ _=>qle,fun _ _=>qlf,fun _ _=>z8d _ _⟩
end Go.Ev
namespace Go.Ev
open Go
section
variable {hp :Hp} {d:Option Nat} {q kk c:Nat} {z x y:AV} {es:List (AV×AV×Nat)} {ok:Bool} {k:IntKind} {n:Int} {i:Nat} {v:AV} {r:Option (Nat×AV)}
theorem qjf :zbc hp (some q) .mk kk z []=if(hp.get q).isNone then some (.mp q,[(q,.mp [] 0)])else none:=rfl
def qcl (ok:Bool)(z:AV):Bool->Option (Option (Nat×AV))->Option (AV×Hp)
 | true,some r=>some (zrg ok z r,[])
 | _,_=>none
def qcj (ok:Bool)(kk:Nat)(z x:AV):Option OB->Option (AV×Hp)
 | some (.mp es _)=>qcl ok z (ze2 kk x) (zdn x es)
 | _=>none
theorem qa0 :zbc hp d (.look ok) kk z [.mp q,x]=qcj ok kk z x (hp.get q):=by
 simp only[zbc]
 rcases hp.get q with _|_|_|_|_|_<;>try rfl
 rename_i es c
 simp only[qcj]
 cases ze2 kk x<;>cases zdn x es<;>rfl
theorem z56 :qcj ok kk z x (some (.mp es c))=qcl ok z (ze2 kk x) (zdn x es):=rfl
theorem qck :qcl ok z true (some r)=some (zrg ok z r,[]):=rfl
theorem z57 :zrg true z (some (i,v))= .tup [v,.bool true]:=rfl
theorem z59 :zrg false z (some (i,v))=v:=rfl
theorem z58 :zrg true z none= .tup [z,.bool false]:=rfl
theorem z6a :zrg false z none=z:=rfl
def updF (q:Nat)(x y:AV)(es:List (AV×AV×Nat))(c:Nat):Bool->Bool->Option (Option (Nat×AV))->Option (AV×Hp)
 | true,true,some r=>some (.unk,[(q,updE es c x y r)])
 | _,_,_=>none
def updK (q kk:Nat)(x y:AV):Option OB->Option (AV×Hp)
 | some (.mp es c)=>updF q x y es c (ze2 kk x) y.kv (zdn x es)
 | _=>none
theorem qfk :zbc hp d .upd kk z [.mp q,x,y]=updK q kk x y (hp.get q):=by
 simp only[zbc]
 rcases hp.get q with _|_|_|_|_|_<;>try rfl
 rename_i es c
 simp only[updK]
 cases ze2 kk x<;>cases y.kv<;>cases zdn x es<;>rfl
theorem qae :updK q kk x y (some (.mp es c))=updF q x y es c (ze2 kk x) y.kv (zdn x es):=rfl
theorem qe1 :updF q x y es c true true (some r)=some (.unk,[(q,updE es c x y r)]):=rfl
theorem z8t :updE es c x y (some (i,v))= .mp (es.set i (x,y,zmr es i)) c:=rfl
theorem z8u :updE es c x y none= .mp (es++[(x,y,c)]) (c+1):=rfl
def entF (q:Nat)(x z:AV)(es:List (AV×AV×Nat))(c:Nat):Bool->Option (Option (Nat×AV))->Option (AV×Hp)
 | true,some r=>some (entE es c q x z r)
 | _,_=>none
def entK (q kk:Nat)(x z:AV):Option OB->Option (AV×Hp)
 | some (.mp es c)=>entF q x z es c (ze2 kk x) (zdn x es)
 | _=>none
theorem qfn :zbc hp d .ent kk z [.mp q,x]=entK q kk x z (hp.get q):=by
 simp only[zbc]
 rcases hp.get q with _|_|_|_|_|_<;>try rfl
 rename_i es c
 simp only[entK]
 cases ze2 kk x<;>cases zdn x es<;>rfl
theorem qdp :entK q kk x z (some (.mp es c))=entF q x z es c (ze2 kk x) (zdn x es):=rfl
theorem qhx :entF q x z es c true (some r)=some (entE es c q x z r):=rfl
theorem qhy :entE es c q x z (some (i,v))=(.tup [v,.int .i64 (zmr es i)],[(q,.mp es c)]):=rfl
theorem qhz :entE es c q x z none=(.tup [z,.int .i64 c],[(q,.mp (es++[(x,z,c)]) (c+1))]):=rfl
def stoF (q:Nat)(y:AV)(es:List (AV×AV×Nat))(c:Nat):Bool->Option Nat->Option (AV×Hp)
 | true,some i=>some (.unk,[(q,.mp (stoE es i y) c)])
 | _,_=>none
def stoK (q:Nat)(n:Int)(y:AV):Option OB->Option (AV×Hp)
 | some (.mp es c)=>stoF q y es c y.kv (zob es n)
 | _=>none
theorem qfl :zbc hp d .sto kk z [.mp q,.int k n,y]=stoK q n y (hp.get q):=by
 simp only[zbc]
 rcases hp.get q with _|_|_|_|_|_<;>try rfl
 rename_i es c
 simp only[stoK]
 cases y.kv<;>cases zob es n<;>rfl
theorem qal :stoK q n y (some (.mp es c))=stoF q y es c y.kv (zob es n):=rfl
theorem qfb :stoF q y es c true (some i)=some (.unk,[(q,.mp (stoE es i y) c)]):=rfl
def delF (q:Nat)(es:List (AV×AV×Nat))(c:Nat):Bool->Option (Option (Nat×AV))->Option (AV×Hp)
 | true,some r=>some (.tup [],[(q,.mp (delE es r) c)])
 | _,_=>none
def delK (q kk:Nat)(x:AV):Option OB->Option (AV×Hp)
 | some (.mp es c)=>delF q es c (ze2 kk x) (zdn x es)
 | _=>none
theorem qfo :zbc hp d .del kk z [.mp q,x]=delK q kk x (hp.get q):=by
 simp only[zbc]
 rcases hp.get q with _|_|_|_|_|_<;>try rfl
 rename_i es c
 simp only[delK]
 cases ze2 kk x<;>cases zdn x es<;>rfl
theorem qdw :delK q kk x (some (.mp es c))=delF q es c (ze2 kk x) (zdn x es):=rfl
theorem qh8 :delF q es c true (some r)=some (.tup [],[(q,.mp (delE es r) c)]):=rfl
theorem qh9 :delE es (some (i,v))=es.eraseIdx i:=rfl
theorem qia :delE es none=es:=rfl
def lenK :Option OB->Option (AV×Hp)
 | some (.mp es _)=>some (.int .i64 es.length,[])
 | _=>none
theorem qfm :zbc hp d .len kk z [.mp q]=lenK (hp.get q):=by
 simp only[zbc]
 rcases hp.get q with _|_|_|_|_|_<;>rfl
theorem qcp :lenK (some (.mp es c))=some (.int .i64 es.length,[]):=rfl
theorem z1s :ze2 0 (.int k n)=true:=rfl
theorem z1r {l:List UInt8}:ze2 1 (.str l)=true:=rfl
theorem qg4 :(AV.int k n).kv=true:=rfl
theorem qg3 {l:List UInt8}:(AV.str l).kv=true:=rfl
theorem qcq {b:Bool}:(AV.bool b).kv=true:=rfl
theorem zz3 :(AV.mp q).scalar=true:=rfl
theorem z5w :(AV.mp q).plain=false:=rfl
end
attribute [go_sem] qjf qa0 z56 qck z57 z59 z58 z6a qfk qae qe1 z8t z8u qfn qdp qhx qhy qhz qfl qal qfb qfo qdw qh8 qh9 qia qfm qcp z1s z1r qg4 qg3 qcq zz3 z5w
end Go.Ev
namespace Go.Ev
open Go
def symK :Bool->Option AV->AV->Option AV
 | true,r,_=>r
 | false,_,y=>some y
theorem qe7 {r:Option AV}{y:AV}:symK true r y=r:=rfl
theorem qe8 {r:Option AV}{y:AV}:symK false r y=some y:=rfl
section
variable {gl :Gl} {cl:Cl} {st:St}
theorem z1v {t:Bool}{blk:Its}{a b:Opd}:iteS gl cl true t blk a b st=symK t (iteC gl a (zbr gl cl blk st)) (b.val gl st.fr):=by cases t<;>rfl
theorem z1w {t:Bool}{blk:Its}{a b:Opd}:iteS gl cl false t blk a b st=symK (!t) (iteC gl b (zbr gl cl blk st)) (a.val gl st.fr):=by cases t<;>rfl
theorem zx0 {d:Option Nat}{m:MOp}{w:Bool}{l:List FO}:zg6 gl cl d m w l st (.tup [])=zb2 gl cl l (st.upd d (.tup []) []):=rfl
end
theorem z4v {t x:Bool}:symK t (some (.bool x)) (.bool false)=some (.bool (t&&x)):=by cases t<;>rfl
theorem qag {t x:Bool}:symK (!t) (some (.bool x)) (.bool true)=some (.bool (t||x)):=by cases t<;>rfl
attribute [go_sem] zx0 z1v z1w qe7 qe8 z4v qag cond_true cond_false Bool.false_and Bool.and_false
theorem zi3 {α:Type}{f:St->Option (Ex×St)}{ks:List Kp}(S:α->St)(Inv:α->Prop)(μ:α->Nat)(next:α->α)(go:α->Bool){a0:α}(hN:μ a0<LF)(hI:Inv a0)
  (hs:∀a,Inv a->go a=true->zba ks (f (S a))=some (S (next a))/\Inv (next a)/\μ (next a)<μ a) (he:∀a,Inv a->go a=false->isEx (f (S a))=true) :
  ∃a,Inv a/\go a=false/\∀st,zc2 ks st=some (S a0)->iter f ks LF st=f (S a):=by
 have key:∀(m n:Nat) (a:α),μ a<=m->m<n->Inv a->∃a',Inv a'/\go a'=false/\∀st,zc2 ks st=some (S a)->iter f ks n st=f (S a'):=by
  intro m
  induction m with
  | zero =>
    intro n a hm hn hi
    obtain⟨n,rfl⟩:∃k,n=k+1:=⟨n-1,by omega⟩
    cases hg:go a with
    | true=>obtain⟨_,_,h3⟩:=hs a hi hg;omega
    | false =>
      refine⟨a,hi,hg,fun st hc=> ?_⟩
      have hx:=he a hi hg
      cases hf:f (S a)with
      | none=>rw[hf]at hx;cases hx
      | some r =>
        obtain⟨e,out⟩:=r
        exact zk3 hc hf (by rw[hf]at hx;cases e<;>simp_all[isEx])
  | succ m ih =>
    intro n a hm hn hi
    obtain⟨n,rfl⟩:∃k,n=k+1:=⟨n-1,by omega⟩
    cases hg:go a with
    | true =>
      obtain⟨h1,h2,h3⟩:=hs a hi hg
      unfold zba at h1
      split at h1
      . rename_i st2 hf
        obtain⟨a',g1,g2,g3⟩:=ih n (next a) (by omega) (by omega) h2
        exact⟨a',g1,g2,fun st hc=>(zmb hc hf).trans (g3 st2 h1)⟩
      . cases h1
    | false =>
      refine⟨a,hi,hg,fun st hc=> ?_⟩
      have hx:=he a hi hg
      cases hf:f (S a)with
      | none=>rw[hf]at hx;cases hx
      | some r =>
        obtain⟨e,out⟩:=r
        exact zk3 hc hf (by rw[hf]at hx;cases e<;>simp_all[isEx])
 exact key (μ a0) LF a0 (wB _) hN hI
theorem z1u {f:St->Option (Ex×St)}{ks:List Kp}(S:Nat->St)(N:Nat)(p:Nat->Prop)(hN:N<LF)
  (hs:∀i,i<N->(∀j,j<i->p j)->p i->zba ks (f (S i))=some (S (i+1))) (hx:∀i,i<N->(∀j,j<i->p j)->¬p i->isEx (f (S i))=true) (he:(∀j,j<N->p j)->isEx (f (S N))=true) :
  ∃k,k<=N/\(∀j,j<k->p j)/\(k<N->¬p k)/\∀st,zc2 ks st=some (S 0)->iter f ks LF st=f (S k):=by
 obtain⟨h1,h2,h3⟩:=zgi p N
 refine⟨fstN p N,h1,h2,h3,fun st h0=>zaj S (fstN p N) (by omega) h0 (fun i hi=>hs i (by omega) (fun j hj=>h2 j (by omega)) (h2 i hi)) ?_⟩
 by_cases h:fstN p N<N
 . exact hx _ h h2 (h3 h)
 . have e:fstN p N=N:=by omega
   rw[e]at h2 ⊢;exact he h2
def out1 (t:Nat)(r:Option (Ex×St)):Option (Ex×AV):=r.map fun r=>(r.1,r.2.fr.get t)
theorem z0t {t:Nat}{e:Ex}{st:St}:out1 t (some (e,st))=some (e,st.fr.get t):=rfl
theorem zcw {t:Nat}{r:Option (Ex×St)}{v:AV}(h:out1 t r=some (.ret,v)):∃st,r=some (.ret,st)/\st.fr.get t=v:=by
 obtain _|⟨e,st⟩:=r
 . cases h
 . simp only[out1,Option.map_some,Option.some.injEq,Prod.mk.injEq]at h;exact⟨st,by rw[h.1],h.2⟩
attribute [go_sem] z0t
end Go.Ev
namespace Go.Ev
open Go
def zbb (gl:Gl)(cl:Cl)(need:List Nat):Nat->List (Nat×List Nat)->List FO->St->Option (St×List (Nat×List Nat))
 | _,acc,[],st=>some (st,acc)
 | i,acc,o::l,st =>
   match o.g with
   | none=>(zab gl cl st o.d o.m).bind fun r=>zbb gl cl need (i+1) (if need.contains i then(i,zbg gl st o.m)::acc else acc) l (st.upd o.d r.1 r.2)
   | some (c,want) =>
     match st.fr.get c with
     | .bool t=>if t=want then(zab gl cl st o.d o.m).bind fun r=>zbb gl cl need (i+1) (if need.contains i then(i,zbg gl st o.m)::acc else acc) l (st.upd o.d r.1 r.2)else zbb gl cl need (i+1) acc l (st.upd o.d (.tup []) [])
     | .tup []=>zbb gl cl need (i+1) acc l (st.upd o.d (.tup []) [])
     | _=>none
def lk :List (Nat×List Nat)->Nat->List Nat
 | [],_=>[]
 | p::r,j=>if p.1=j then p.2 else lk r j
def zmx :List (Nat×Nat)->List Nat
 | []=>[]
 | p::r=>p.1::p.2::zmx r
theorem zrf :∀{prs:List (Nat×Nat)} {p:Nat×Nat},p∈prs->p.1∈zmx prs/\p.2∈zmx prs
 | _::r,p,h=>by
   rcases List.mem_cons.1 h with rfl|h
   . simp[zmx]
   . have:=zrf h;simp[zmx,this]
def Nt (need:List Nat)(i:Nat)(acc:List (Nat×List Nat))(ks:List (List Nat))(acc':List (Nat×List Nat)):Prop :=
 ∀j,need.contains j=true->lk acc' j=if i<=j/\lk acc j=[]then ks.getD (j-i) []else lk acc j
variable {gl :Gl} {cl:Cl} {st:St}
theorem zpn {need:List Nat}:∀(l:List FO) (i:Nat) (acc:List (Nat×List Nat)) (st:St),(∀j,i<=j->lk acc j=[]) ->
  match zbt gl cl l st,zbb gl cl need i acc l st with
  | some (s,ks),some (s',acc')=>s=s'/\Nt need i acc ks acc'
  | none,none=>True
  | _,_=>False
 | [],i,acc,st,h=>by
   simp only[zbt,zbb]
   refine⟨trivial,fun j hj=> ?_⟩
   split
   . rename_i h2;simp[h2.2]
   . rfl
 | o::l,i,acc,st,h=>by
   obtain⟨d,m,g⟩:=o
   have step:∀(kk:List Nat) (st':St),match (zbt gl cl l st').map (fun q=>(q.1,kk::q.2)),zbb gl cl need (i+1) (if need.contains i then(i,kk)::acc else acc) l st' with
     | some (s,ks),some (s',acc')=>s=s'/\Nt need i acc ks acc'
     | none,none=>True
     | _,_=>False:=fun kk st'=>by
    have ih:=zpn (need:=need) l (i+1) (if need.contains i then(i,kk)::acc else acc) st' (fun j hj=>by
     split
     . rw[lk,if_neg (show ¬i=j by omega)];exact h j (by omega)
     . exact h j (by omega))
    revert ih
    cases zbt gl cl l st' with
    | none=>cases zbb gl cl need (i+1) (if need.contains i then(i,kk)::acc else acc) l st'<;>exact id
    | some q =>
      cases zbb gl cl need (i+1) (if need.contains i then(i,kk)::acc else acc) l st' with
      | none=>exact id
      | some q' =>
        rintro ⟨h1,h2⟩
        refine⟨h1,fun j hj=> ?_⟩
        rw[h2 j hj]
        by_cases hij:i=j
        . subst hij
          rw[if_neg (by omega),hj,if_pos rfl,lk,if_pos rfl,if_pos ⟨wB _,h i (wB _)⟩,wD];rfl
        . have e:lk (if need.contains i then(i,kk)::acc else acc) j=lk acc j:=by
           split
           . rw[lk,if_neg hij]
           . rfl
          rw[e]
          by_cases h3:i<=j
          . have h4:=h j h3
            rw[if_pos ⟨by omega,h4⟩,if_pos ⟨h3,h4⟩,show j-i=(j-(i+1))+1 by omega];rfl
          . rw[if_neg (by omega),if_neg (by omega)]
   have skip:∀(st':St),match (zbt gl cl l st').map (fun q=>(q.1,([]:List Nat)::q.2)),zbb gl cl need (i+1) acc l st' with
     | some (s,ks),some (s',acc')=>s=s'/\Nt need i acc ks acc'
     | none,none=>True
     | _,_=>False:=fun st'=>by
    have ih:=zpn (need:=need) l (i+1) acc st' (fun j hj=>h j (by omega))
    revert ih
    cases zbt gl cl l st' with
    | none=>cases zbb gl cl need (i+1) acc l st'<;>exact id
    | some q =>
      cases zbb gl cl need (i+1) acc l st' with
      | none=>exact id
      | some q' =>
        rintro ⟨h1,h2⟩
        refine⟨h1,fun j hj=> ?_⟩
        rw[h2 j hj]
        by_cases hij:i=j
        . subst hij
          have h4:=h i (wB _)
          rw[if_neg (by omega),if_pos ⟨wB _,h4⟩,wD];exact h4
        . by_cases h3:i<=j
          . have h4:=h j h3
            rw[if_pos ⟨by omega,h4⟩,if_pos ⟨h3,h4⟩,show j-i=(j-(i+1))+1 by omega];rfl
          . rw[if_neg (by omega),if_neg (by omega)]
   cases g with
   | none =>
     simp only[zbt,zbb]
     cases zab gl cl st d m with
     | none=>trivial
     | some r=>exact step _ _
   | some p =>
     obtain⟨c,want⟩:=p
     simp only[zbt,zbb]
     cases st.fr.get c with
     | bool t =>
       by_cases ht:t=want
       . simp only[ht,if_true]
         cases zab gl cl st d m with
         | none=>trivial
         | some r=>exact step _ _
       . simp only[ht,if_false];exact skip _
     | tup r=>cases r with
       | nil=>exact skip _
       | cons=>trivial
     | _=>trivial
def zyp (acc:List (Nat×List Nat)):List (Nat×Nat)->Bool
 | []=>true
 | p::r=>disj (lk acc p.1) (lk acc p.2)&&zyp acc r
def z3j (prs:List (Nat×Nat)):Option (St×List (Nat×List Nat))->Option (Ex×St)
 | some (st,acc)=>if zyp acc prs then some (.norm,st)else none
 | none=>none
def zny (gl:Gl)(cl:Cl)(need:List Nat)(i:Nat)(acc:List (Nat×List Nat))(d:Option Nat)(m:MOp)(l:List FO)(st:St):Option (AV×Hp)->Option (St×List (Nat×List Nat))
 | some (v,us)=>zbb gl cl need (i+1) (if need.contains i then(i,zbg gl st m)::acc else acc) l (st.upd d v us)
 | none=>none
def zd8 (gl:Gl)(cl:Cl)(need:List Nat)(i:Nat)(acc:List (Nat×List Nat))(d:Option Nat)(m:MOp)(w:Bool)(l:List FO)(st:St):AV->Option (St×List (Nat×List Nat))
 | .bool t=>if t=w then zny gl cl need i acc d m l st (zab gl cl st d m)else zbb gl cl need (i+1) acc l (st.upd d (.tup []) [])
 | .tup []=>zbb gl cl need (i+1) acc l (st.upd d (.tup []) [])
 | _=>none
theorem zv7 {acc:List (Nat×List Nat)}{ks:List (List Nat)}{need:List Nat}(h:Nt need 0 [] ks acc):∀prs:List (Nat×Nat),(∀p∈prs,p.1∈need/\p.2∈need) ->
  zyp acc prs=prs.all fun p=>disj (ks.getD p.1 []) (ks.getD p.2 [])
 | [],_=>rfl
 | p::r,hp=>by
   obtain⟨h1,h2⟩:=hp p (by simp)
   have e1:=h p.1 (by simpa using h1)
   have e2:=h p.2 (by simpa using h2)
   rw[if_pos ⟨Nat.zero_le _,rfl⟩,Nat.sub_zero]at e1 e2
   rw[zyp,List.all_cons,e1,e2,zv7 h r fun q hq=>hp q (by simp[hq])]
theorem z3b {l:List FO}{p:Nat×Nat}{prs:List (Nat×Nat)}:evC gl cl (.draw l (p::prs)) st=z3j (p::prs) (zbb gl cl (zmx (p::prs)) 0 [] l st):=by
 rw[evC]
 have h:=zpn (gl:=gl) (cl:=cl) (need:=zmx (p::prs)) l 0 [] st (fun _ _=>rfl)
 revert h
 cases zbt gl cl l st with
 | none=>cases zbb gl cl (zmx (p::prs)) 0 [] l st<;>simp[z3j]
 | some q =>
   cases zbb gl cl (zmx (p::prs)) 0 [] l st with
   | none=>exact False.elim
   | some q' =>
     rintro ⟨h1,h2⟩
     simp only[wF,z3j,zv7 h2 _ fun x hx=>zrf hx,h1]
section
variable {need :List Nat} {i:Nat} {acc:List (Nat×List Nat)} {d:Option Nat} {m:MOp} {l:List FO}
theorem zty :zbb gl cl need i acc [] st=some (st,acc):=by rw[zbb]
theorem zyl :zbb gl cl need i acc (⟨d,m,none⟩::l) st=zny gl cl need i acc d m l st (zab gl cl st d m):=by
 rw[zbb];rcases zab gl cl st d m with _|⟨_,_⟩<;>rfl
theorem zpp {c:Nat}{w:Bool}:zbb gl cl need i acc (⟨d,m,some (c,w)⟩::l) st=zd8 gl cl need i acc d m w l st (st.fr.get c):=by
 rw[zbb]
 simp only
 generalize st.fr.get c=v
 cases v with
 | bool t =>
   simp only[zd8]
   by_cases h:t=w
   . simp only[h,if_true];rcases zab gl cl st d m with _|⟨_,_⟩<;>rfl
   . simp only[h,if_false]
 | tup l=>cases l<;>rfl
 | _=>rfl
theorem ztx {v:AV}{us:Hp}:zny gl cl need i acc d m l st (some (v,us))=zbb gl cl need (i+1) (if need.contains i then(i,zbg gl st m)::acc else acc) l (st.upd d v us):=by rw[zny]
theorem zxw :zd8 gl cl need i acc d m true l st (.bool true)=zny gl cl need i acc d m l st (zab gl cl st d m):=by rw[zd8,if_pos rfl]
theorem zxz :zd8 gl cl need i acc d m false l st (.bool false)=zny gl cl need i acc d m l st (zab gl cl st d m):=by rw[zd8,if_pos rfl]
theorem zxx :zd8 gl cl need i acc d m true l st (.bool false)=zbb gl cl need (i+1) acc l (st.upd d (.tup []) []):=by rw[zd8,if_neg (by decide)]
theorem zxy :zd8 gl cl need i acc d m false l st (.bool true)=zbb gl cl need (i+1) acc l (st.upd d (.tup []) []):=by rw[zd8,if_neg (by decide)]
theorem ztu {w:Bool}:zd8 gl cl need i acc d m w l st (.tup [])=zbb gl cl need (i+1) acc l (st.upd d (.tup []) []):=by rw[zd8]
theorem zyn {prs:List (Nat×Nat)}:z3j prs (some (st,acc))=if zyp acc prs then some (.norm,st)else none:=by rw[z3j]
end
theorem qgz {j:Nat}:lk [] j=[]:=by rw[lk]
theorem qcm {p:Nat×List Nat}{r:List (Nat×List Nat)}{j:Nat}:lk (p::r) j=if p.1=j then p.2 else lk r j:=by rw[lk]
theorem z74 {b:List Nat}:disj [] b=true:=rfl
theorem z3o {a:Nat}{l b:List Nat}:disj (a::l) b=(!b.contains a&&disj l b):=rfl
attribute [go_sem] z3b zty zyl zpp ztx zxw zxz zxx zxy ztu zyn qgz qcm zyp z74 z3o zmx zbg MOp.opds Option.toList
end Go.Ev
namespace Go.Ev
open Go
variable {gl :Gl} {cl:Cl} {st:St}
def rfE (fr:Fr)(hp:Hp)(kd:Nat):Option OB->Option (Ex×St)
 | some (.lp _ _ .ready)=>some (.norm,{fr,hp:=(kd,.dead)::hp})
 | some (.lp _ _ (.done e))=>some (e,{fr,hp:=(kd,.dead)::hp})
 | _=>none
def rfK (fr:Fr)(kd:Nat)(hp:Hp):Option (AV×Hp)->Option (Ex×St)
 | some (_,us)=>rfE fr (us++hp) kd (Hp.get (us++hp) kd)
 | none=>none
theorem zym {rid:Nat}{g:Opd}{slots:List Nat}{kd dc:Nat}:evC gl cl (.rangeF rid g slots kd dc) st=evRf cl rid slots kd dc st (g.val gl st.fr):=by rw[evC]
def zft (fr:Fr):List Nat->List AV
 | []=>[]
 | i::l=>fr.get i::zft fr l
theorem znv {fr:Fr}:∀{l:List Nat},l.map fr.get=zft fr l
 | []=>rfl
 | i::l=>by rw[List.map_cons,zft,znv]
theorem qib {f:Nat}(h:f<2000000):cvF f=f:=if_pos h
theorem qic {f:Nat}(h:2000000<=f):cvF f=f-2000000:=if_neg (wE.2 h)
theorem qid {f:Nat}{a c:List AV}(h:f<2000000):cvA f a c=a++c:=if_pos h
theorem qie {f:Nat}{a c:List AV}(h:2000000<=f):cvA f a c=c++a:=if_neg (wE.2 h)
theorem qdk {rid:Nat}{slots:List Nat}{kd dc h:Nat}{caps:List AV}:evRf cl rid slots kd dc st (.fn h caps) =
  if(st.hp.get kd).isNone&&decide (kd<SHK)&&decide (h<RB)then rfK st.fr kd ((kd,.lp rid (zft st.fr slots) .ready)::st.hp) (zbz cl ((kd,.lp rid (zft st.fr slots) .ready)::st.hp) dc h (.yld kd::caps) (zav ((kd,.lp rid (zft st.fr slots) .ready)::st.hp) (kd::AV.refss caps)))else none:=by
 rw[evRf,znv]
 split
 . cases zbz cl ((kd,.lp rid (zft st.fr slots) .ready)::st.hp) dc h (.yld kd::caps) (zav ((kd,.lp rid (zft st.fr slots) .ready)::st.hp) (kd::AV.refss caps))with
   | none=>rfl
   | some r=>simp only[wF,rfK,qbj,rfE];rfl
 . rfl
theorem z5e {fr:Fr}{kd:Nat}{hp:Hp}{r:AV}{us:Hp}:rfK fr kd hp (some (r,us))=rfE fr (us++hp) kd (Hp.get (us++hp) kd):=by rw[rfK]
theorem z0i {fr:Fr}{hp:Hp}{kd rid:Nat}{vals:List AV}:rfE fr hp kd (some (.lp rid vals .ready))=some (.norm,{fr,hp:=(kd,.dead)::hp}):=by rw[rfE]
theorem z5f {fr:Fr}{hp:Hp}{kd rid:Nat}{vals:List AV}{e:Ex}:rfE fr hp kd (some (.lp rid vals (.done e)))=some (e,{fr,hp:=(kd,.dead)::hp}):=by rw[rfE]
def drK (cl:Cl)(hp:Hp)(d q:Nat)(args:List AV):Option OB->Option (AV×Hp)
 | some (.lp rid _ .ready)=>zbz cl hp d (RB+rid) args (zav hp (q::AV.refss args))
 | _=>none
theorem z3l {hp:Hp}{d q:Nat}{args:List AV}:zgk cl hp d q args .imp=drK cl hp d q args (hp.get q):=by
 simp only[zgk]
 rcases hp.get q with _|_|_|_|⟨_,_,_|_|_⟩<;>rfl
theorem z3k {hp:Hp}{d q:Nat}{args:List AV}{rid:Nat}{vals:List AV}:drK cl hp d q args (some (.lp rid vals .ready))=zbz cl hp d (RB+rid) args (zav hp (q::AV.refss args)):=by rw[drK]
def rndC (e:Ex):Option (List AV×Hp×List OB)->Option (AV×Hp×List OB)
 | some (_,hp,es)=>some (.bool (decide (e= .norm)),hp,es)
 | none=>none
def zow (ks:List Nat)(e:Ex)(st:St):Option OB->Option (AV×Hp×List OB)
 | some (.lp r v .busy)=>rndC e (zfn {fr:=st.fr,hp:=(SHK,.lp r v (if e= .norm then .ready else .done e))::st.hp} ks [] (zcu {fr:=st.fr,hp:=(SHK,.lp r v (if e= .norm then .ready else .done e))::st.hp} ks []))
 | _=>none
def rndB (ks:List Nat):Option (Ex×St)->Option (AV×Hp×List OB)
 | some (e,st)=>zow ks e st (Hp.get st.hp SHK)
 | none=>none
def z0g (gl:Gl)(cl:Cl)(body:MC)(ks:List Nat)(st:St):Option OB->Option (AV×Hp×List OB)
 | some (.lp r v .ready)=>rndB ks (evC gl cl body {fr:=st.fr,hp:=(SHK,.lp r v .busy)::st.hp})
 | _=>none
def rndA (gl:Gl)(cl:Cl)(body:MC)(ks:List Nat):Option (Ex×St)->Option (AV×Hp×List OB)
 | some (.norm,st)=>z0g gl cl body ks st (Hp.get st.hp SHK)
 | _=>none
theorem z7r {params slots:List Nat}{as body:MC}{args:List AV}{q rid:Nat}{vals:List AV}{r:Hp}:zmy params slots as body gl cl args ((q,.lp rid vals .ready)::r) =
  if decide (q=SHK)&&decide (args.length=params.length)&&zgq params&&mcLt as&&mcLt body&& !zcg as&& !zcg body then
   rndA gl cl body (q::zcp r) (evC gl cl as {fr:=frAt params args++frAt slots vals,hp:=(q,.lp rid vals .ready)::r})else none:=by
 rw[zmy]
 simp only
 split
 . cases evC gl cl as {fr:=frAt params args++frAt slots vals,hp:=(q,.lp rid vals .ready)::r}with
   | none=>rfl
   | some a =>
     obtain⟨e,sa⟩:=a
     cases e with
     | norm =>
       simp only[wF,rndA]
       rcases hk:Hp.get sa.hp SHK with _|_|_|_|⟨r1,v1,_|_|_⟩<;>simp only[z0g]
       cases evC gl cl body {fr:=sa.fr,hp:=(SHK,.lp r1 v1 .busy)::sa.hp}with
       | none=>rfl
       | some b =>
         obtain⟨eb,sb⟩:=b
         simp only[wF,rndB]
         rcases hk2:Hp.get sb.hp SHK with _|_|_|_|⟨r2,v2,_|_|_⟩<;>simp only[zow,zcp]
         rcases zfn _ _ _ _ with _|⟨_,_,_⟩<;>rfl
     | exit id=>rfl
     | ret=>rfl
 . rfl
theorem z0f {body:MC}{ks:List Nat}:rndA gl cl body ks (some (.norm,st))=z0g gl cl body ks st (Hp.get st.hp SHK):=by rw[rndA]
theorem zs2 {body:MC}{ks:List Nat}{r:Nat}{v:List AV}:z0g gl cl body ks st (some (.lp r v .ready))=rndB ks (evC gl cl body {fr:=st.fr,hp:=(SHK,.lp r v .busy)::st.hp}):=by rw[z0g]
theorem z0d {ks:List Nat}{e:Ex}:rndB ks (some (e,st))=zow ks e st (Hp.get st.hp SHK):=by rw[rndB]
theorem zw5 {ks:List Nat}{r:Nat}{v:List AV}:zow ks .norm st (some (.lp r v .busy))=rndC .norm (zfn {fr:=st.fr,hp:=(SHK,.lp r v .ready)::st.hp} ks [] (zcu {fr:=st.fr,hp:=(SHK,.lp r v .ready)::st.hp} ks [])):=by simp only[zow,if_true]
theorem z0e {ks:List Nat}{r:Nat}{v:List AV}:zow ks .ret st (some (.lp r v .busy))=rndC .ret (zfn {fr:=st.fr,hp:=(SHK,.lp r v (.done .ret))::st.hp} ks [] (zcu {fr:=st.fr,hp:=(SHK,.lp r v (.done .ret))::st.hp} ks [])):=by
 simp only[zow,if_neg (show ¬Ex.ret= .norm by decide)]
theorem zw6 {ks:List Nat}{r i:Nat}{v:List AV}:zow ks (.exit i) st (some (.lp r v .busy))=rndC (.exit i) (zfn {fr:=st.fr,hp:=(SHK,.lp r v (.done (.exit i)))::st.hp} ks [] (zcu {fr:=st.fr,hp:=(SHK,.lp r v (.done (.exit i)))::st.hp} ks [])):=by
 simp only[zow,if_neg (show ¬Ex.exit i= .norm by simp)]
theorem z0b {l:List AV}{hp:Hp}{es:List OB}:rndC .norm (some (l,hp,es))=some (.bool true,hp,es):=by simp[rndC]
theorem z5a {l:List AV}{hp:Hp}{es:List OB}:rndC .ret (some (l,hp,es))=some (.bool false,hp,es):=by simp[rndC]
theorem z0c {i:Nat}{l:List AV}{hp:Hp}{es:List OB}:rndC (.exit i) (some (l,hp,es))=some (.bool false,hp,es):=by simp[rndC]
attribute [go_sem] zym qdk zft z5e z0i z5f z3l z3k zi9 qib qic qid qie z7r z0f zs2 z0d zw5 z0e zw6 z0b z5a z0c frAt mcLt zrl ltO ksLt zcg
end Go.Ev
namespace Go.Ev
open Go
variable {gl :Gl} {cl:Cl} {st:St} {D:DfD}
def seqL (gl:Gl)(cl:Cl)(l:List MC):Option (Ex×St)->Option (Ex×St)
 | some (.norm,st)=>zm0 gl cl l st
 | r=>r
theorem z3s :zm0 gl cl [] st=some (.norm,st):=rfl
theorem zyq {m:MC}{l:List MC}:zm0 gl cl (m::l) st=seqL gl cl l (evC gl cl m st):=by
 rw[zm0]
 rcases evC gl cl m st with _|⟨_|_|_,_⟩<;>rfl
theorem zzx {l:List MC}:seqL gl cl l (some (.norm,st))=zm0 gl cl l st:=rfl
theorem z41 {l:List MC}:seqL gl cl l (some (.ret,st))=some (.ret,st):=rfl
theorem zzy {l:List MC}{i:Nat}:seqL gl cl l (some (.exit i,st))=some (.exit i,st):=rfl
def dfC (D:DfD)(gl:Gl)(cl:Cl):Cl:=fun _ as h=>z7t D gl cl (as.take D.slots.length) (as.drop D.slots.length) h
theorem qh7 {f:Nat}{as:List AV}{h:Hp}:dfC D gl cl f as h=z7t D gl cl (as.take D.slots.length) (as.drop D.slots.length) h:=rfl
def dfZ (hk:List Nat)(hp:Hp):Option (AV×Hp)->Option (AV×Hp×List OB)
 | some (v,us)=>genK {fr:=[],hp:=us++hp} hk (some [v])
 | none=>none
theorem z76 {hk:List Nat}{hp us:Hp}{v:AV}:dfZ hk hp (some (v,us))=genK {fr:=[],hp:=us++hp} hk (some [v]):=rfl
def dfF (D:DfD)(gl:Gl)(cl:Cl)(hk:List Nat):Option St->Option (AV×Hp×List OB)
 | some st=>dfZ hk st.hp (zbz (dfC D gl cl) st.hp D.d D.fS (zft st.fr D.slots++vals gl st.fr D.dargs) (zav st.hp (AV.refss (zft st.fr D.slots++vals gl st.fr D.dargs))))
 | none=>none
theorem z78 {hk:List Nat}:dfF D gl cl hk (some st)=dfZ hk st.hp (zbz (dfC D gl cl) st.hp D.d D.fS (zft st.fr D.slots++vals gl st.fr D.dargs) (zav st.hp (AV.refss (zft st.fr D.slots++vals gl st.fr D.dargs)))):=rfl
def dfA (D:DfD)(gl:Gl)(cl:Cl)(hk:List Nat):Option (Ex×St)->Option (AV×Hp×List OB)
 | some (.norm,st)=>dfF D gl cl hk (zb2 gl cl D.fos st)
 | some (.ret,st)=>genK st hk (zbf st D.res)
 | _=>none
theorem z8a {hk:List Nat}:dfA D gl cl hk (some (.norm,st))=dfF D gl cl hk (zb2 gl cl D.fos st):=rfl
theorem qdv {hk:List Nat}:dfA D gl cl hk (some (.ret,st))=genK st hk (zbf st D.res):=rfl
def dfS (D:DfD)(gl:Gl)(cl:Cl):Cl:=fun _ as h=>evFn gl cl D.fd as h
def dfY (D:DfD)(fr:Fr)(hp:Hp)(hk:List Nat):Option (AV×Hp)->Option (AV×Hp×List OB)
 | some (_,us)=>genK {fr,hp:=us++hp} hk (zbf {fr,hp:=us++hp} D.res)
 | none=>none
theorem z77 {fr:Fr}{hp us:Hp}{hk:List Nat}{v:AV}:dfY D fr hp hk (some (v,us))=genK {fr,hp:=us++hp} hk (zbf {fr,hp:=us++hp} D.res):=rfl
def hasK (hp:Hp):List Nat->Bool
 | []=>true
 | k::l=>(hp.get k).isSome&&hasK hp l
theorem z6s {hp:Hp}:hasK hp []=true:=rfl
theorem z2a {hp:Hp}{k:Nat}{l:List Nat}:hasK hp (k::l)=((hp.get k).isSome&&hasK hp l):=rfl
def dfE (D:DfD)(gl:Gl)(cl:Cl)(dv:List AV)(hk:List Nat)(st:St):Option (AV×Hp×List OB) :=
 if hasK st.hp hk then dfY D st.fr st.hp hk (zbz (dfS D gl cl) st.hp D.dd D.fS dv (zav st.hp (AV.refss dv)))else none
def dfB (D:DfD)(gl:Gl)(cl:Cl)(dv:List AV)(hk:List Nat):Option (Ex×St)->Option (AV×Hp×List OB)
 | some (.norm,st)=>dfE D gl cl dv hk st
 | some (.ret,st)=>dfE D gl cl dv hk st
 | _=>none
theorem z79 {dv:List AV}{hk:List Nat}:dfB D gl cl dv hk (some (.norm,st))=dfE D gl cl dv hk st:=rfl
theorem qdu {dv:List AV}{hk:List Nat}:dfB D gl cl dv hk (some (.ret,st))=dfE D gl cl dv hk st:=rfl
theorem zq8 {hp hp':Hp}{j:Nat}{s sh:Sh}:ziv hp hp' j (.lst true s []) (.own sh)=some (.sl (20000+j) [] 0 0,[.grow sh []]):=rfl
attribute [go_sem] zq8 z3s zyq zzx z41 zzy qh7 z76 z78 z8a qdv z77 dfE z6s z2a z79 qdu
end Go.Ev
