/-
  For the evaluator's user: loops that may end early, and rules whose side conditions are linear. No condition.
-/
import Derived.Test.YtaloneiaejhopaaDoorEvS
import Derived.Test.YtaloneiaejhopaaDoorEvCall2
set_option linter.all false
open Nat renaming le_refl->wB,add_zero->wC,sub_self->wD,not_lt_zero->wE,zero_add->wF,sub_zero->wG,zero_le->wH,not_lt->wJ
open Option renaming bind_some->wK,some.injEq->wL,map_some->wM
open List renaming mem_append->wN,getElem?_cons_succ->wO,cons_append->wP,append_assoc->wQ,singleton_append->wR,contains_iff_mem->wS,nodup_append->wT,length_cons->wU,all_eq_true->wV,nil_append->wW,map_append->wX,append_nil->wY,getElem?_eq_some_iff->wZ,map_cons->w0,getElem?_cons_zero->w1,mem_cons->w2
open Bool renaming false_eq_true->w3,and_eq_true->w4
namespace Go.Ev
open Go
noncomputable def fstN (p:Nat->Prop):Nat->Nat
 | 0=>0
 | n+1=>by classical exact if fstN p n<n then fstN p n else if p n then n+1 else n
theorem zlj (p:Nat->Prop):∀N,fstN p N<=N/\(∀i,i<fstN p N->p i)/\(fstN p N<N->¬p (fstN p N))
 | 0=>⟨wB _,fun i h=>absurd h (wE _),fun h=>absurd h (wE _)⟩
 | n+1=>by
   obtain⟨h1,h2,h3⟩:=zlj p n
   rw[fstN]
   split
   . rename_i h;exact⟨by omega,h2,fun _=>h3 h⟩
   . rename_i h
     have e:fstN p n=n:=by omega
     rw[e]at h2
     split
     . rename_i hp;exact⟨by omega,fun i hi=>by by_cases hi':i=n;exact hi'▸hp;exact h2 i (by omega),fun h=>by omega⟩
     . rename_i hp;exact⟨by omega,h2,fun _=>hp⟩
theorem z7l {f:St->Option (Ex×St)}{ks:List Kp}(S:Nat->St)(N:Nat)(p:Nat->Prop){st:St}(hN:N<LF)(h0:zcr ks st=some (S 0))
  (hs:∀i,i<N->p i->zaz ks (f (S i))=some (S (i+1))) (hx:∀i,i<N->¬p i->isEx (f (S i))=true) (he:isEx (f (S N))=true) :
  iter f ks LF st=f (S (fstN p N)):=by
 obtain⟨h1,h2,h3⟩:=zlj p N
 refine zak S (fstN p N) (by omega) h0 (fun i hi=>hs i (by omega) (h2 i hi)) ?_
 by_cases h:fstN p N<N
 . exact hx _ h (h3 h)
 . have:fstN p N=N:=by omega
   rw[this];exact he
theorem w64 {a:Int}(h:-9223372036854775808<=a/\a<=9223372036854775807):IntKind.wrap .i64 a=a:=zbf h.1 h.2
theorem z85 (a b:Nat):((a+b:Nat):Int)=(a:Int)+(b:Int):=rfl
end Go.Ev
namespace Go.Ev
theorem qls {a b:Int}(h:a=b):(a==b)=true:=by simp[h]
theorem qlt {a b:Int}(h:a<b\/b<a):(a==b)=false:=beq_eq_false_iff_ne.2 (by omega)
theorem qlq {a b:Int}(h:a<b\/b<a):(a != b)=true:=bne_iff_ne.2 (by omega)
theorem qlr {a b:Int}(h:a=b):(a != b)=false:=by simp[h]
end Go.Ev
namespace Go.Ev
theorem qfq {a b:Int}(h:0<=a/\0<=b):(a+b).toNat=a.toNat+b.toNat:=by omega
theorem qfp {a b:Int}(h:0<=a/\0<=b):(a*b).toNat=a.toNat * b.toNat:=Int.toNat_mul h.1 h.2
theorem qfn {a b:Int}(h:0<=b):(a-b).toNat=a.toNat-b.toNat:=by omega
theorem qfo :(1:Int).toNat=1:=rfl
theorem qay :(0:Int).toNat=0:=rfl
end Go.Ev
namespace Go.Ev
theorem qk1 {a b:Nat}(h:a<b):(a<b)=True:=eq_true h
theorem qk2 {a b:Nat}(h:b<=a):(a<b)=False:=eq_false (by omega)
theorem qk5 {a b:Nat}(h:a<=b):(a<=b)=True:=eq_true h
theorem qk6 {a b:Nat}(h:b<a):(a<=b)=False:=eq_false (by omega)
theorem qk3 {a b:Int}(h:a<b):(a<b)=True:=eq_true h
theorem qk4 {a b:Int}(h:b<=a):(a<b)=False:=eq_false (by omega)
theorem qk7 {a b:Int}(h:a<=b):(a<=b)=True:=eq_true h
theorem qk8 {a b:Int}(h:b<a):(a<=b)=False:=eq_false (by omega)
theorem qlj {a b:Nat}(h:a=b):(a=b)=True:=eq_true h
theorem qlk {a b:Nat}(h:a<b\/b<a):(a=b)=False:=eq_false (by omega)
theorem qll {a b:Int}(h:a=b):(a=b)=True:=eq_true h
theorem qlm {a b:Int}(h:a<b\/b<a):(a=b)=False:=eq_false (by omega)
end Go.Ev
namespace Go.Ev
open Go
theorem z7k {f:St->Option (Ex×St)}{ks:List Kp}(I:Nat->St->Prop)(N:Nat){s0:St}(hN:N<LF)(hI:I 0 s0)
  (hs:∀i s,i<N->I i s->∃s',zaz ks (f s)=some s'/\I (i+1) s') (he:∀s,I N s->isEx (f s)=true) :
  ∃s,I N s/\∀st,zcr ks st=some s0->iter f ks LF st=f s:=by
 have key:∀(d i:Nat) (s0:St),i+d=N->I i s0->∃s,I N s/\∀n st,d<n->zcr ks st=some s0->iter f ks n st=f s:=by
  intro d
  induction d with
  | zero =>
    intro i s0 hi hI
    have:i=N:=by omega
    subst this
    refine⟨s0,hI,fun n st hn hc=> ?_⟩
    obtain⟨n,rfl⟩:∃m,n=m+1:=⟨n-1,by omega⟩
    have hx:=he s0 hI
    cases hf:f s0 with
    | none=>rw[hf]at hx;cases hx
    | some r =>
      obtain⟨e,out⟩:=r
      exact zhx hc hf (by rw[hf]at hx;cases e<;>simp_all[isEx])
  | succ d ih =>
    intro i s0 hi hI
    obtain⟨s',h1,h2⟩:=hs i s0 (by omega) hI
    unfold zaz at h1
    split at h1
    . rename_i st2 hf
      obtain⟨s,hIs,hit⟩:=ih (i+1) s' (by omega) h2
      refine⟨s,hIs,fun n st hn hc=> ?_⟩
      obtain⟨n,rfl⟩:∃m,n=m+1:=⟨n-1,by omega⟩
      rw[zje hc hf]
      exact hit n st2 (by omega) h1
    . cases h1
 obtain⟨s,h1,h2⟩:=key N 0 s0 (by omega) hI
 exact⟨s,h1,fun st hc=>h2 LF st hN hc⟩
end Go.Ev
namespace Go.Ev
open Go
theorem xx :(∀a b:Int,0<=a/\0<=b->(a+b).toNat=a.toNat+b.toNat)/\(∀a b:Int,0<=a/\0<=b->(a*b).toNat=a.toNat * b.toNat)/\(∀a b:Int,0<=b->(a-b).toNat=a.toNat-b.toNat) /\
  (1:Int).toNat=1/\(0:Int).toNat=0/\(∀a:Int,-9223372036854775808<=a/\a<=9223372036854775807->IntKind.wrap .i64 a=a) /\
  (∀a b:Nat,a<b->(a<b)=True)/\(∀a b:Nat,b<=a->(a<b)=False)/\(∀a b:Nat,a<=b->(a<=b)=True)/\(∀a b:Nat,b<a->(a<=b)=False) /\
  (∀a b:Int,a<b->(a<b)=True)/\(∀a b:Int,b<=a->(a<b)=False)/\(∀a b:Int,a<=b->(a<=b)=True)/\(∀a b:Int,b<a->(a<=b)=False) /\
  (∀a b:Nat,a=b->(a=b)=True)/\(∀a b:Nat,a<b\/b<a->(a=b)=False)/\(∀a b:Int,a=b->(a=b)=True)/\(∀a b:Int,a<b\/b<a->(a=b)=False) /\
  (∀a b:Int,a=b->(a==b)=true)/\(∀a b:Int,a<b\/b<a->(a==b)=false)/\(∀a b:Int,a<b\/b<a->(a != b)=true)/\(∀a b:Int,a=b->(a != b)=false) /\
  (∀a b:Nat,((a+b:Nat):Int)=(a:Int)+(b:Int)) :=
 ⟨fun _ _=>qfq,fun _ _=>qfp,fun _ _=>qfn,qfo,qay,fun _=>w64,fun _ _=>qk1,fun _ _=>qk2,fun _ _=>qk5,fun _ _=>qk6,
   fun _ _=>qk3,fun _ _=>qk4,fun _ _=>qk7,fun _ _=>qk8,fun _ _=>qlj,fun _ _=>qlk,fun _ _=>qll,fun _ _=>qlm,fun _ _=>qls,fun _ _=>qlt,fun _ _=>qlq,fun _ _=>qlr,fun _ _=>z85 _ _⟩
end Go.Ev
namespace Go.Ev
open Go
section
variable {hp :Hp} {d:Option Nat} {q kk c:Nat} {z x y:AV} {es:List (AV×AV×Nat)} {ok:Bool} {k:IntKind} {n:Int} {i:Nat} {v:AV} {r:Option (Nat×AV)}
theorem qki :zbh hp (some q) .mk kk z []=if(hp.get q).isNone then some (.mp q,[(q,.mp [] 0)])else none:=rfl
def qda (ok:Bool)(z:AV):Bool->Option (Option (Nat×AV))->Option (AV×Hp)
 | true,some r=>some (zup ok z r,[])
 | _,_=>none
def qc8 (ok:Bool)(kk:Nat)(z x:AV):Option OB->Option (AV×Hp)
 | some (.mp es _)=>qda ok z (zc1 kk x) (zcg x es)
 | _=>none
theorem qbv :zbh hp d (.look ok) kk z [.mp q,x]=qc8 ok kk z x (hp.get q):=by
 simp only[zbh]
 rcases hp.get q with _|_|_|_|_|_<;>try rfl
 rename_i es c
 simp only[qc8]
 cases zc1 kk x<;>cases zcg x es<;>rfl
theorem z68 :qc8 ok kk z x (some (.mp es c))=qda ok z (zc1 kk x) (zcg x es):=rfl
theorem qc9 :qda ok z true (some r)=some (zup ok z r,[]):=rfl
theorem z69 :zup true z (some (i,v))= .tup [v,.bool true]:=rfl
theorem z7b :zup false z (some (i,v))=v:=rfl
theorem z7a :zup true z none= .tup [z,.bool false]:=rfl
theorem z7c :zup false z none=z:=rfl
def updF (q:Nat)(x y:AV)(es:List (AV×AV×Nat))(c:Nat):Bool->Bool->Option (Option (Nat×AV))->Option (AV×Hp)
 | true,true,some r=>some (.unk,[(q,updE es c x y r)])
 | _,_,_=>none
def updK (q kk:Nat)(x y:AV):Option OB->Option (AV×Hp)
 | some (.mp es c)=>updF q x y es c (zc1 kk x) y.kv (zcg x es)
 | _=>none
theorem qgr :zbh hp d .upd kk z [.mp q,x,y]=updK q kk x y (hp.get q):=by
 simp only[zbh]
 rcases hp.get q with _|_|_|_|_|_<;>try rfl
 rename_i es c
 simp only[updK]
 cases zc1 kk x<;>cases y.kv<;>cases zcg x es<;>rfl
theorem qaw :updK q kk x y (some (.mp es c))=updF q x y es c (zc1 kk x) y.kv (zcg x es):=rfl
theorem qfj :updF q x y es c true true (some r)=some (.unk,[(q,updE es c x y r)]):=rfl
theorem qfk :updE es c x y (some (i,v))= .mp (es.set i (x,y,zq2 es i)) c:=rfl
theorem qfl :updE es c x y none= .mp (es++[(x,y,c)]) (c+1):=rfl
def entF (q:Nat)(x z:AV)(es:List (AV×AV×Nat))(c:Nat):Bool->Option (Option (Nat×AV))->Option (AV×Hp)
 | true,some r=>some (entE es c q x z r)
 | _,_=>none
def entK (q kk:Nat)(x z:AV):Option OB->Option (AV×Hp)
 | some (.mp es c)=>entF q x z es c (zc1 kk x) (zcg x es)
 | _=>none
theorem qgu :zbh hp d .ent kk z [.mp q,x]=entK q kk x z (hp.get q):=by
 simp only[zbh]
 rcases hp.get q with _|_|_|_|_|_<;>try rfl
 rename_i es c
 simp only[entK]
 cases zc1 kk x<;>cases zcg x es<;>rfl
theorem qed :entK q kk x z (some (.mp es c))=entF q x z es c (zc1 kk x) (zcg x es):=rfl
theorem qi4 :entF q x z es c true (some r)=some (entE es c q x z r):=rfl
theorem qi5 :entE es c q x z (some (i,v))=(.tup [v,.int .i64 (zq2 es i)],[(q,.mp es c)]):=rfl
theorem qi6 :entE es c q x z none=(.tup [z,.int .i64 c],[(q,.mp (es++[(x,z,c)]) (c+1))]):=rfl
def stoF (q:Nat)(y:AV)(es:List (AV×AV×Nat))(c:Nat):Bool->Option Nat->Option (AV×Hp)
 | true,some i=>some (.unk,[(q,.mp (stoE es i y) c)])
 | _,_=>none
def stoK (q:Nat)(n:Int)(y:AV):Option OB->Option (AV×Hp)
 | some (.mp es c)=>stoF q y es c y.kv (zoy es n)
 | _=>none
theorem qgs :zbh hp d .sto kk z [.mp q,.int k n,y]=stoK q n y (hp.get q):=by
 simp only[zbh]
 rcases hp.get q with _|_|_|_|_|_<;>try rfl
 rename_i es c
 simp only[stoK]
 cases y.kv<;>cases zoy es n<;>rfl
theorem qa7 :stoK q n y (some (.mp es c))=stoF q y es c y.kv (zoy es n):=rfl
theorem qfy :stoF q y es c true (some i)=some (.unk,[(q,.mp (stoE es i y) c)]):=rfl
def delF (q:Nat)(es:List (AV×AV×Nat))(c:Nat):Bool->Option (Option (Nat×AV))->Option (AV×Hp)
 | true,some r=>some (.tup [],[(q,.mp (delE es r) c)])
 | _,_=>none
def delK (q kk:Nat)(x:AV):Option OB->Option (AV×Hp)
 | some (.mp es c)=>delF q es c (zc1 kk x) (zcg x es)
 | _=>none
theorem qgv :zbh hp d .del kk z [.mp q,x]=delK q kk x (hp.get q):=by
 simp only[zbh]
 rcases hp.get q with _|_|_|_|_|_<;>try rfl
 rename_i es c
 simp only[delK]
 cases zc1 kk x<;>cases zcg x es<;>rfl
theorem qei :delK q kk x (some (.mp es c))=delF q es c (zc1 kk x) (zcg x es):=rfl
theorem qje :delF q es c true (some r)=some (.tup [],[(q,.mp (delE es r) c)]):=rfl
theorem qjf :delE es (some (i,v))=es.eraseIdx i:=rfl
theorem qjg :delE es none=es:=rfl
def lenK :Option OB->Option (AV×Hp)
 | some (.mp es _)=>some (.int .i64 es.length,[])
 | _=>none
theorem qgt :zbh hp d .len kk z [.mp q]=lenK (hp.get q):=by
 simp only[zbh]
 rcases hp.get q with _|_|_|_|_|_<;>rfl
theorem qde :lenK (some (.mp es c))=some (.int .i64 es.length,[]):=rfl
theorem z2l :zc1 0 (.int k n)=true:=rfl
theorem z2k {l:List UInt8}:zc1 1 (.str l)=true:=rfl
theorem z7i {k k':IntKind}{a b:Int}:zc1 5 (.agg [.int k a,.int k' b])=true:=rfl
theorem z7h {k k' k'':IntKind}{a b c:Int}:zc1 6 (.agg [.int k a,.int k' b,.int k'' c])=true:=rfl
theorem qh6 :(AV.int k n).kv=true:=rfl
theorem qh5 {l:List UInt8}:(AV.str l).kv=true:=rfl
theorem qdf {b:Bool}:(AV.bool b).kv=true:=rfl
theorem z0n :(AV.mp q).scalar=true:=rfl
theorem z62 :(AV.mp q).plain=false:=rfl
end
attribute [go_sem] qki qbv z68 qc9 z69 z7b z7a z7c qgr qaw qfj qfk qfl qgu qed qi4 qi5 qi6 qgs qa7 qfy qgv qei qje qjf qjg qgt qde z2l z7i z7h z2k qh6 qh5 qdf z0n z62
end Go.Ev
namespace Go.Ev
open Go
def symK :Bool->Option AV->AV->Option AV
 | true,r,_=>r
 | false,_,y=>some y
theorem qfv {r:Option AV}{y:AV}:symK true r y=r:=rfl
theorem qfw {r:Option AV}{y:AV}:symK false r y=some y:=rfl
section
variable {gl :Gl} {cl:Cl} {st:St}
theorem z2o {t:Bool}{blk:Its}{a b:Opd}:iteS gl cl true t blk a b st=symK t (iteC gl a (zbz gl cl blk st)) (b.val gl st.fr):=by cases t<;>rfl
theorem z2p {t:Bool}{blk:Its}{a b:Opd}:iteS gl cl false t blk a b st=symK (!t) (iteC gl b (zbz gl cl blk st)) (a.val gl st.fr):=by cases t<;>rfl
theorem zyz {d:Option Nat}{m:MOp}{w:Bool}{l:List FO}:zhb gl cl d m w l st (.tup [])=zb5 gl cl l (st.upd d (.tup []) []):=rfl
end
theorem z5v {t x:Bool}:symK t (some (.bool x)) (.bool false)=some (.bool (t&&x)):=by cases t<;>rfl
theorem qa2 {t x:Bool}:symK (!t) (some (.bool x)) (.bool true)=some (.bool (t||x)):=by cases t<;>rfl
attribute [go_sem] zyz z2o z2p qfv qfw z5v qa2 cond_true cond_false Bool.false_and Bool.and_false
theorem zmn {α:Type}{f:St->Option (Ex×St)}{ks:List Kp}(S:α->St)(Inv:α->Prop)(μ:α->Nat)(next:α->α)(go:α->Bool){a0:α}(hN:μ a0<LF)(hI:Inv a0)
  (hs:∀a,Inv a->go a=true->zaz ks (f (S a))=some (S (next a))/\Inv (next a)/\μ (next a)<μ a) (he:∀a,Inv a->go a=false->isEx (f (S a))=true) :
  ∃a,Inv a/\go a=false/\∀st,zcr ks st=some (S a0)->iter f ks LF st=f (S a):=by
 have key:∀(m n:Nat) (a:α),μ a<=m->m<n->Inv a->∃a',Inv a'/\go a'=false/\∀st,zcr ks st=some (S a)->iter f ks n st=f (S a'):=by
  intro m
  induction m with
  | zero =>
    intro n a hm hn hi
    obtain⟨n,rfl⟩:∃k,n=k+1:=⟨n-1,by omega⟩
    cases hg:go a with
    | true=>obtain⟨_,_,h3⟩:=hs a hi hg;omega
    | false =>
      refine⟨a,hi,hg,fun st hc=> ?_⟩
      have hx:=he a hi hg
      cases hf:f (S a)with
      | none=>rw[hf]at hx;cases hx
      | some r =>
        obtain⟨e,out⟩:=r
        exact zhx hc hf (by rw[hf]at hx;cases e<;>simp_all[isEx])
  | succ m ih =>
    intro n a hm hn hi
    obtain⟨n,rfl⟩:∃k,n=k+1:=⟨n-1,by omega⟩
    cases hg:go a with
    | true =>
      obtain⟨h1,h2,h3⟩:=hs a hi hg
      unfold zaz at h1
      split at h1
      . rename_i st2 hf
        obtain⟨a',g1,g2,g3⟩:=ih n (next a) (by omega) (by omega) h2
        exact⟨a',g1,g2,fun st hc=>(zje hc hf).trans (g3 st2 h1)⟩
      . cases h1
    | false =>
      refine⟨a,hi,hg,fun st hc=> ?_⟩
      have hx:=he a hi hg
      cases hf:f (S a)with
      | none=>rw[hf]at hx;cases hx
      | some r =>
        obtain⟨e,out⟩:=r
        exact zhx hc hf (by rw[hf]at hx;cases e<;>simp_all[isEx])
 exact key (μ a0) LF a0 (wB _) hN hI
def out1 (t:Nat)(r:Option (Ex×St)):Option (Ex×AV):=r.map fun r=>(r.1,r.2.fr.get t)
theorem z1o {t:Nat}{e:Ex}{st:St}:out1 t (some (e,st))=some (e,st.fr.get t):=rfl
theorem zhs {t:Nat}{r:Option (Ex×St)}{v:AV}(h:out1 t r=some (.ret,v)):∃st,r=some (.ret,st)/\st.fr.get t=v:=by
 obtain _|⟨e,st⟩:=r
 . cases h
 . simp only[out1,wM,wL,Prod.mk.injEq]at h;exact⟨st,by rw[h.1],h.2⟩
attribute [go_sem] z1o
end Go.Ev
namespace Go.Ev
open Go
def zbe (gl:Gl)(cl:Cl)(need:List Nat):Nat->List (Nat×List Nat)->List FO->St->Option (St×List (Nat×List Nat))
 | _,acc,[],st=>some (st,acc)
 | i,acc,o::l,st =>
   match o.g with
   | none=>(zaa gl cl st o.d o.m).bind fun r=>zbe gl cl need (i+1) (if need.contains i then(i,zbj gl st o.m)::acc else acc) l (st.upd o.d r.1 r.2)
   | some (c,want) =>
     match st.fr.get c with
     | .bool t=>if t=want then(zaa gl cl st o.d o.m).bind fun r=>zbe gl cl need (i+1) (if need.contains i then(i,zbj gl st o.m)::acc else acc) l (st.upd o.d r.1 r.2)else zbe gl cl need (i+1) acc l (st.upd o.d (.tup []) [])
     | .tup []=>zbe gl cl need (i+1) acc l (st.upd o.d (.tup []) [])
     | _=>none
def lk :List (Nat×List Nat)->Nat->List Nat
 | [],_=>[]
 | p::r,j=>if p.1=j then p.2 else lk r j
def zni :List (Nat×Nat)->List Nat
 | []=>[]
 | p::r=>p.1::p.2::zni r
theorem zse :∀{prs:List (Nat×Nat)} {p:Nat×Nat},p∈prs->p.1∈zni prs/\p.2∈zni prs
 | _::r,p,h=>by
   rcases w2.1 h with rfl|h
   . simp[zni]
   . have:=zse h;simp[zni,this]
def Nt (need:List Nat)(i:Nat)(acc:List (Nat×List Nat))(ks:List (List Nat))(acc':List (Nat×List Nat)):Prop :=
 ∀j,need.contains j=true->lk acc' j=if i<=j/\lk acc j=[]then ks.getD (j-i) []else lk acc j
variable {gl :Gl} {cl:Cl} {st:St}
theorem zqn {need:List Nat}:∀(l:List FO) (i:Nat) (acc:List (Nat×List Nat)) (st:St),(∀j,i<=j->lk acc j=[]) ->
  match zb0 gl cl l st,zbe gl cl need i acc l st with
  | some (s,ks),some (s',acc')=>s=s'/\Nt need i acc ks acc'
  | none,none=>True
  | _,_=>False
 | [],i,acc,st,h=>by
   simp only[zb0,zbe]
   refine⟨trivial,fun j hj=> ?_⟩
   split
   . rename_i h2;simp[h2.2]
   . rfl
 | o::l,i,acc,st,h=>by
   obtain⟨d,m,g⟩:=o
   have step:∀(kk:List Nat) (st':St),match (zb0 gl cl l st').map (fun q=>(q.1,kk::q.2)),zbe gl cl need (i+1) (if need.contains i then(i,kk)::acc else acc) l st' with
     | some (s,ks),some (s',acc')=>s=s'/\Nt need i acc ks acc'
     | none,none=>True
     | _,_=>False:=fun kk st'=>by
    have ih:=zqn (need:=need) l (i+1) (if need.contains i then(i,kk)::acc else acc) st' (fun j hj=>by
     split
     . rw[lk,if_neg (show ¬i=j by omega)];exact h j (by omega)
     . exact h j (by omega))
    revert ih
    cases zb0 gl cl l st' with
    | none=>cases zbe gl cl need (i+1) (if need.contains i then(i,kk)::acc else acc) l st'<;>exact id
    | some q =>
      cases zbe gl cl need (i+1) (if need.contains i then(i,kk)::acc else acc) l st' with
      | none=>exact id
      | some q' =>
        rintro ⟨h1,h2⟩
        refine⟨h1,fun j hj=> ?_⟩
        rw[h2 j hj]
        by_cases hij:i=j
        . subst hij
          rw[if_neg (by omega),hj,if_pos rfl,lk,if_pos rfl,if_pos ⟨wB _,h i (wB _)⟩,wD];rfl
        . have e:lk (if need.contains i then(i,kk)::acc else acc) j=lk acc j:=by
           split
           . rw[lk,if_neg hij]
           . rfl
          rw[e]
          by_cases h3:i<=j
          . have h4:=h j h3
            rw[if_pos ⟨by omega,h4⟩,if_pos ⟨h3,h4⟩,show j-i=(j-(i+1))+1 by omega];rfl
          . rw[if_neg (by omega),if_neg (by omega)]
   have skip:∀(st':St),match (zb0 gl cl l st').map (fun q=>(q.1,([]:List Nat)::q.2)),zbe gl cl need (i+1) acc l st' with
     | some (s,ks),some (s',acc')=>s=s'/\Nt need i acc ks acc'
     | none,none=>True
     | _,_=>False:=fun st'=>by
    have ih:=zqn (need:=need) l (i+1) acc st' (fun j hj=>h j (by omega))
    revert ih
    cases zb0 gl cl l st' with
    | none=>cases zbe gl cl need (i+1) acc l st'<;>exact id
    | some q =>
      cases zbe gl cl need (i+1) acc l st' with
      | none=>exact id
      | some q' =>
        rintro ⟨h1,h2⟩
        refine⟨h1,fun j hj=> ?_⟩
        rw[h2 j hj]
        by_cases hij:i=j
        . subst hij
          have h4:=h i (wB _)
          rw[if_neg (by omega),if_pos ⟨wB _,h4⟩,wD];exact h4
        . by_cases h3:i<=j
          . have h4:=h j h3
            rw[if_pos ⟨by omega,h4⟩,if_pos ⟨h3,h4⟩,show j-i=(j-(i+1))+1 by omega];rfl
          . rw[if_neg (by omega),if_neg (by omega)]
   cases g with
   | none =>
     simp only[zb0,zbe]
     cases zaa gl cl st d m with
     | none=>trivial
     | some r=>exact step _ _
   | some p =>
     obtain⟨c,want⟩:=p
     simp only[zb0,zbe]
     cases st.fr.get c with
     | bool t =>
       by_cases ht:t=want
       . simp only[ht,if_true]
         cases zaa gl cl st d m with
         | none=>trivial
         | some r=>exact step _ _
       . simp only[ht,if_false];exact skip _
     | tup r=>cases r with
       | nil=>exact skip _
       | cons=>trivial
     | _=>trivial
def zzn (acc:List (Nat×List Nat)):List (Nat×Nat)->Bool
 | []=>true
 | p::r=>disj (lk acc p.1) (lk acc p.2)&&zzn acc r
def z4k (prs:List (Nat×Nat)):Option (St×List (Nat×List Nat))->Option (Ex×St)
 | some (st,acc)=>if zzn acc prs then some (.norm,st)else none
 | none=>none
def zoj (gl:Gl)(cl:Cl)(need:List Nat)(i:Nat)(acc:List (Nat×List Nat))(d:Option Nat)(m:MOp)(l:List FO)(st:St):Option (AV×Hp)->Option (St×List (Nat×List Nat))
 | some (v,us)=>zbe gl cl need (i+1) (if need.contains i then(i,zbj gl st m)::acc else acc) l (st.upd d v us)
 | none=>none
def zeh (gl:Gl)(cl:Cl)(need:List Nat)(i:Nat)(acc:List (Nat×List Nat))(d:Option Nat)(m:MOp)(w:Bool)(l:List FO)(st:St):AV->Option (St×List (Nat×List Nat))
 | .bool t=>if t=w then zoj gl cl need i acc d m l st (zaa gl cl st d m)else zbe gl cl need (i+1) acc l (st.upd d (.tup []) [])
 | .tup []=>zbe gl cl need (i+1) acc l (st.upd d (.tup []) [])
 | _=>none
theorem zxf {acc:List (Nat×List Nat)}{ks:List (List Nat)}{need:List Nat}(h:Nt need 0 [] ks acc):∀prs:List (Nat×Nat),(∀p∈prs,p.1∈need/\p.2∈need) ->
  zzn acc prs=prs.all fun p=>disj (ks.getD p.1 []) (ks.getD p.2 [])
 | [],_=>rfl
 | p::r,hp=>by
   obtain⟨h1,h2⟩:=hp p (by simp)
   have e1:=h p.1 (by simpa using h1)
   have e2:=h p.2 (by simpa using h2)
   rw[if_pos ⟨wH _,rfl⟩,wG]at e1 e2
   rw[zzn,List.all_cons,e1,e2,zxf h r fun q hq=>hp q (by simp[hq])]
theorem z4a {l:List FO}{p:Nat×Nat}{prs:List (Nat×Nat)}:evC gl cl (.draw l (p::prs)) st=z4k (p::prs) (zbe gl cl (zni (p::prs)) 0 [] l st):=by
 rw[evC]
 have h:=zqn (gl:=gl) (cl:=cl) (need:=zni (p::prs)) l 0 [] st (fun _ _=>rfl)
 revert h
 cases zb0 gl cl l st with
 | none=>cases zbe gl cl (zni (p::prs)) 0 [] l st<;>simp[z4k]
 | some q =>
   cases zbe gl cl (zni (p::prs)) 0 [] l st with
   | none=>exact False.elim
   | some q' =>
     rintro ⟨h1,h2⟩
     simp only[wK,z4k,zxf h2 _ fun x hx=>zse hx,h1]
section
variable {need :List Nat} {i:Nat} {acc:List (Nat×List Nat)} {d:Option Nat} {m:MOp} {l:List FO}
theorem zu2 :zbe gl cl need i acc [] st=some (st,acc):=by rw[zbe]
theorem zzj :zbe gl cl need i acc (⟨d,m,none⟩::l) st=zoj gl cl need i acc d m l st (zaa gl cl st d m):=by
 rw[zbe];rcases zaa gl cl st d m with _|⟨_,_⟩<;>rfl
theorem zqr {c:Nat}{w:Bool}:zbe gl cl need i acc (⟨d,m,some (c,w)⟩::l) st=zeh gl cl need i acc d m w l st (st.fr.get c):=by
 rw[zbe]
 simp only
 generalize st.fr.get c=v
 cases v with
 | bool t =>
   simp only[zeh]
   by_cases h:t=w
   . simp only[h,if_true];rcases zaa gl cl st d m with _|⟨_,_⟩<;>rfl
   . simp only[h,if_false]
 | tup l=>cases l<;>rfl
 | _=>rfl
theorem zu0 {v:AV}{us:Hp}:zoj gl cl need i acc d m l st (some (v,us))=zbe gl cl need (i+1) (if need.contains i then(i,zbj gl st m)::acc else acc) l (st.upd d v us):=by rw[zoj]
theorem zyv :zeh gl cl need i acc d m true l st (.bool true)=zoj gl cl need i acc d m l st (zaa gl cl st d m):=by rw[zeh,if_pos rfl]
theorem zyy :zeh gl cl need i acc d m false l st (.bool false)=zoj gl cl need i acc d m l st (zaa gl cl st d m):=by rw[zeh,if_pos rfl]
theorem zyw :zeh gl cl need i acc d m true l st (.bool false)=zbe gl cl need (i+1) acc l (st.upd d (.tup []) []):=by rw[zeh,if_neg (by decide)]
theorem zyx :zeh gl cl need i acc d m false l st (.bool true)=zbe gl cl need (i+1) acc l (st.upd d (.tup []) []):=by rw[zeh,if_neg (by decide)]
theorem zuw {w:Bool}:zeh gl cl need i acc d m w l st (.tup [])=zbe gl cl need (i+1) acc l (st.upd d (.tup []) []):=by rw[zeh]
theorem zzl {prs:List (Nat×Nat)}:z4k prs (some (st,acc))=if zzn acc prs then some (.norm,st)else none:=by rw[z4k]
end
theorem qh2 {j:Nat}:lk [] j=[]:=by rw[lk]
theorem qdb {p:Nat×List Nat}{r:List (Nat×List Nat)}{j:Nat}:lk (p::r) j=if p.1=j then p.2 else lk r j:=by rw[lk]
theorem z8s {b:List Nat}:disj [] b=true:=rfl
theorem z4p {a:Nat}{l b:List Nat}:disj (a::l) b=(!b.contains a&&disj l b):=rfl
attribute [go_sem] z4a zu2 zzj zqr zu0 zyv zyy zyw zyx zuw zzl qh2 qdb zzn z8s z4p zni zbj MOp.opds Option.toList
end Go.Ev
namespace Go.Ev
open Go
variable {gl :Gl} {cl:Cl} {st:St}
def rfE (fr:Fr)(hp:Hp)(kd:Nat):Option OB->Option (Ex×St)
 | some (.lp _ _ .ready)=>some (.norm,{fr,hp:=(kd,.dead)::hp})
 | some (.lp _ _ (.done e))=>some (e,{fr,hp:=(kd,.dead)::hp})
 | _=>none
def rfK (fr:Fr)(kd:Nat)(hp:Hp):Option (AV×Hp)->Option (Ex×St)
 | some (_,us)=>rfE fr (us++hp) kd (Hp.get (us++hp) kd)
 | none=>none
theorem zzk {rid:Nat}{g:Opd}{slots:List Nat}{kd dc:Nat}:evC gl cl (.rangeF rid g slots kd dc) st=evRf cl rid slots kd dc st (g.val gl st.fr):=by rw[evC]
def zf0 (fr:Fr):List Nat->List AV
 | []=>[]
 | i::l=>fr.get i::zf0 fr l
theorem zof {fr:Fr}:∀{l:List Nat},l.map fr.get=zf0 fr l
 | []=>rfl
 | i::l=>by rw[w0,zf0,zof]
theorem qjh {f:Nat}(h:f<2000000):cvF f=f:=if_pos h
theorem qji {f:Nat}(h:2000000<=f):cvF f=f-2000000:=if_neg (wJ.2 h)
theorem qjj {f:Nat}{a c:List AV}(h:f<2000000):cvA f a c=a++c:=if_pos h
theorem qjk {f:Nat}{a c:List AV}(h:2000000<=f):cvA f a c=c++a:=if_neg (wJ.2 h)
theorem qea {rid:Nat}{slots:List Nat}{kd dc h:Nat}{caps:List AV}:evRf cl rid slots kd dc st (.fn h caps) =
  if(st.hp.get kd).isNone&&decide (kd<SHK)&&decide (h<RB)then rfK st.fr kd ((kd,.lp rid (zf0 st.fr slots) .ready)::st.hp) (zb4 cl ((kd,.lp rid (zf0 st.fr slots) .ready)::st.hp) dc h (.yld kd::caps) (zax ((kd,.lp rid (zf0 st.fr slots) .ready)::st.hp) (kd::AV.refss caps)))else none:=by
 rw[evRf,zof]
 split
 . cases zb4 cl ((kd,.lp rid (zf0 st.fr slots) .ready)::st.hp) dc h (.yld kd::caps) (zax ((kd,.lp rid (zf0 st.fr slots) .ready)::st.hp) (kd::AV.refss caps))with
   | none=>rfl
   | some r=>simp only[wK,rfK,qce,rfE];rfl
 . rfl
theorem z6i {fr:Fr}{kd:Nat}{hp:Hp}{r:AV}{us:Hp}:rfK fr kd hp (some (r,us))=rfE fr (us++hp) kd (Hp.get (us++hp) kd):=by rw[rfK]
theorem z05 {fr:Fr}{hp:Hp}{kd rid:Nat}{vals:List AV}:rfE fr hp kd (some (.lp rid vals .ready))=some (.norm,{fr,hp:=(kd,.dead)::hp}):=by rw[rfE]
theorem z6j {fr:Fr}{hp:Hp}{kd rid:Nat}{vals:List AV}{e:Ex}:rfE fr hp kd (some (.lp rid vals (.done e)))=some (e,{fr,hp:=(kd,.dead)::hp}):=by rw[rfE]
def drK (cl:Cl)(hp:Hp)(d q:Nat)(args:List AV):Option OB->Option (AV×Hp)
 | some (.lp rid _ .ready)=>zb4 cl hp d (RB+rid) args (zax hp (q::AV.refss args))
 | _=>none
theorem z4m {hp:Hp}{d q:Nat}{args:List AV}:zgn cl hp d q args .imp=drK cl hp d q args (hp.get q):=by
 simp only[zgn]
 rcases hp.get q with _|_|_|_|⟨_,_,_|_|_⟩<;>rfl
theorem z4l {hp:Hp}{d q:Nat}{args:List AV}{rid:Nat}{vals:List AV}:drK cl hp d q args (some (.lp rid vals .ready))=zb4 cl hp d (RB+rid) args (zax hp (q::AV.refss args)):=by rw[drK]
def rndC (e:Ex):Option (List AV×Hp×List OB)->Option (AV×Hp×List OB)
 | some (_,hp,es)=>some (.bool (decide (e= .norm)),hp,es)
 | none=>none
def zpo (ks:List Nat)(e:Ex)(st:St):Option OB->Option (AV×Hp×List OB)
 | some (.lp r v .busy)=>rndC e (zft {fr:=st.fr,hp:=(SHK,.lp r v (if e= .norm then .ready else .done e))::st.hp} ks [] (zcy {fr:=st.fr,hp:=(SHK,.lp r v (if e= .norm then .ready else .done e))::st.hp} ks []))
 | _=>none
def rndB (ks:List Nat):Option (Ex×St)->Option (AV×Hp×List OB)
 | some (e,st)=>zpo ks e st (Hp.get st.hp SHK)
 | none=>none
def z02 (gl:Gl)(cl:Cl)(body:MC)(ks:List Nat)(st:St):Option OB->Option (AV×Hp×List OB)
 | some (.lp r v .ready)=>rndB ks (evC gl cl body {fr:=st.fr,hp:=(SHK,.lp r v .busy)::st.hp})
 | _=>none
def rndA (gl:Gl)(cl:Cl)(body:MC)(ks:List Nat):Option (Ex×St)->Option (AV×Hp×List OB)
 | some (.norm,st)=>z02 gl cl body ks st (Hp.get st.hp SHK)
 | _=>none
theorem z8h {params slots:List Nat}{as body:MC}{args:List AV}{q rid:Nat}{vals:List AV}{r:Hp}:znk params slots as body gl cl args ((q,.lp rid vals .ready)::r) =
  if decide (q=SHK)&&decide (args.length=params.length)&&ze4 params&&mcLt as&&mcLt body&& !zcm as&& !zcm body then
   rndA gl cl body (q::zcq r) (evC gl cl as {fr:=frAt params args++frAt slots vals,hp:=(q,.lp rid vals .ready)::r})else none:=by
 rw[znk]
 simp only
 split
 . cases evC gl cl as {fr:=frAt params args++frAt slots vals,hp:=(q,.lp rid vals .ready)::r}with
   | none=>rfl
   | some a =>
     obtain⟨e,sa⟩:=a
     cases e with
     | norm =>
       simp only[wK,rndA]
       rcases hk:Hp.get sa.hp SHK with _|_|_|_|⟨r1,v1,_|_|_⟩<;>simp only[z02]
       cases evC gl cl body {fr:=sa.fr,hp:=(SHK,.lp r1 v1 .busy)::sa.hp}with
       | none=>rfl
       | some b =>
         obtain⟨eb,sb⟩:=b
         simp only[wK,rndB]
         rcases hk2:Hp.get sb.hp SHK with _|_|_|_|⟨r2,v2,_|_|_⟩<;>simp only[zpo,zcq]
         rcases zft _ _ _ _ with _|⟨_,_,_⟩<;>rfl
     | exit id=>rfl
     | ret=>rfl
 . rfl
theorem z01 {body:MC}{ks:List Nat}:rndA gl cl body ks (some (.norm,st))=z02 gl cl body ks st (Hp.get st.hp SHK):=by rw[rndA]
theorem zt7 {body:MC}{ks:List Nat}{r:Nat}{v:List AV}:z02 gl cl body ks st (some (.lp r v .ready))=rndB ks (evC gl cl body {fr:=st.fr,hp:=(SHK,.lp r v .busy)::st.hp}):=by rw[z02]
theorem z0z {ks:List Nat}{e:Ex}:rndB ks (some (e,st))=zpo ks e st (Hp.get st.hp SHK):=by rw[rndB]
theorem zx4 {ks:List Nat}{r:Nat}{v:List AV}:zpo ks .norm st (some (.lp r v .busy))=rndC .norm (zft {fr:=st.fr,hp:=(SHK,.lp r v .ready)::st.hp} ks [] (zcy {fr:=st.fr,hp:=(SHK,.lp r v .ready)::st.hp} ks [])):=by simp only[zpo,if_true]
theorem z00 {ks:List Nat}{r:Nat}{v:List AV}:zpo ks .ret st (some (.lp r v .busy))=rndC .ret (zft {fr:=st.fr,hp:=(SHK,.lp r v (.done .ret))::st.hp} ks [] (zcy {fr:=st.fr,hp:=(SHK,.lp r v (.done .ret))::st.hp} ks [])):=by
 simp only[zpo,if_neg (show ¬Ex.ret= .norm by decide)]
theorem zx5 {ks:List Nat}{r i:Nat}{v:List AV}:zpo ks (.exit i) st (some (.lp r v .busy))=rndC (.exit i) (zft {fr:=st.fr,hp:=(SHK,.lp r v (.done (.exit i)))::st.hp} ks [] (zcy {fr:=st.fr,hp:=(SHK,.lp r v (.done (.exit i)))::st.hp} ks [])):=by
 simp only[zpo,if_neg (show ¬Ex.exit i= .norm by simp)]
theorem z0x {l:List AV}{hp:Hp}{es:List OB}:rndC .norm (some (l,hp,es))=some (.bool true,hp,es):=by simp[rndC]
theorem z6b {l:List AV}{hp:Hp}{es:List OB}:rndC .ret (some (l,hp,es))=some (.bool false,hp,es):=by simp[rndC]
theorem z0y {i:Nat}{l:List AV}{hp:Hp}{es:List OB}:rndC (.exit i) (some (l,hp,es))=some (.bool false,hp,es):=by simp[rndC]
attribute [go_sem] zzk qea zf0 z6i z05 z6j z4m z4l zjm qjh qji qjj qjk z8h z01 zt7 z0z zx4 z00 zx5 z0x z6b z0y frAt mcLt zsl ltO ksLt zcm
end Go.Ev
namespace Go.Ev
open Go
variable {gl :Gl} {cl:Cl} {st:St} {D:DfD}
def seqL (gl:Gl)(cl:Cl)(l:List MC):Option (Ex×St)->Option (Ex×St)
 | some (.norm,st)=>znm gl cl l st
 | r=>r
theorem z4u :znm gl cl [] st=some (.norm,st):=rfl
theorem zzo {m:MC}{l:List MC}:znm gl cl (m::l) st=seqL gl cl l (evC gl cl m st):=by
 rw[znm]
 rcases evC gl cl m st with _|⟨_|_|_,_⟩<;>rfl
theorem z0i {l:List MC}:seqL gl cl l (some (.norm,st))=znm gl cl l st:=rfl
theorem z52 {l:List MC}:seqL gl cl l (some (.ret,st))=some (.ret,st):=rfl
theorem z0j {l:List MC}{i:Nat}:seqL gl cl l (some (.exit i,st))=some (.exit i,st):=rfl
def dfC (D:DfD)(gl:Gl)(cl:Cl):Cl:=fun _ as h=>z8j D gl cl (as.take D.slots.length) (as.drop D.slots.length) h
theorem qjc {f:Nat}{as:List AV}{h:Hp}:dfC D gl cl f as h=z8j D gl cl (as.take D.slots.length) (as.drop D.slots.length) h:=rfl
def dfZ (hk:List Nat)(hp:Hp):Option (AV×Hp)->Option (AV×Hp×List OB)
 | some (v,us)=>genK {fr:=[],hp:=us++hp} hk (some [v])
 | none=>none
theorem z8v {hk:List Nat}{hp us:Hp}{v:AV}:dfZ hk hp (some (v,us))=genK {fr:=[],hp:=us++hp} hk (some [v]):=rfl
def dfF (D:DfD)(gl:Gl)(cl:Cl)(hk:List Nat):Option St->Option (AV×Hp×List OB)
 | some st=>dfZ hk st.hp (zb4 (dfC D gl cl) st.hp D.d D.fS (zf0 st.fr D.slots++vals gl st.fr D.dargs) (zax st.hp (AV.refss (zf0 st.fr D.slots++vals gl st.fr D.dargs))))
 | none=>none
theorem z8x {hk:List Nat}:dfF D gl cl hk (some st)=dfZ hk st.hp (zb4 (dfC D gl cl) st.hp D.d D.fS (zf0 st.fr D.slots++vals gl st.fr D.dargs) (zax st.hp (AV.refss (zf0 st.fr D.slots++vals gl st.fr D.dargs)))):=rfl
def dfA (D:DfD)(gl:Gl)(cl:Cl)(hk:List Nat):Option (Ex×St)->Option (AV×Hp×List OB)
 | some (.norm,st)=>dfF D gl cl hk (zb5 gl cl D.fos st)
 | some (.ret,st)=>genK st hk (zbi st D.res)
 | _=>none
theorem z8z {hk:List Nat}:dfA D gl cl hk (some (.norm,st))=dfF D gl cl hk (zb5 gl cl D.fos st):=rfl
theorem qeh {hk:List Nat}:dfA D gl cl hk (some (.ret,st))=genK st hk (zbi st D.res):=rfl
def dfS (D:DfD)(gl:Gl)(cl:Cl):Cl:=fun _ as h=>evFn gl cl D.fd as h
def dfY (D:DfD)(fr:Fr)(hp:Hp)(hk:List Nat):Option (AV×Hp)->Option (AV×Hp×List OB)
 | some (_,us)=>genK {fr,hp:=us++hp} hk (zbi {fr,hp:=us++hp} D.res)
 | none=>none
theorem z8w {fr:Fr}{hp us:Hp}{hk:List Nat}{v:AV}:dfY D fr hp hk (some (v,us))=genK {fr,hp:=us++hp} hk (zbi {fr,hp:=us++hp} D.res):=rfl
def hasK (hp:Hp):List Nat->Bool
 | []=>true
 | k::l=>(hp.get k).isSome&&hasK hp l
theorem z7v {hp:Hp}:hasK hp []=true:=rfl
theorem z24 {hp:Hp}{k:Nat}{l:List Nat}:hasK hp (k::l)=((hp.get k).isSome&&hasK hp l):=rfl
def dfE (D:DfD)(gl:Gl)(cl:Cl)(dv:List AV)(hk:List Nat)(st:St):Option (AV×Hp×List OB) :=
 if hasK st.hp hk then dfY D st.fr st.hp hk (zb4 (dfS D gl cl) st.hp D.dd D.fS dv (zax st.hp (AV.refss dv)))else none
def dfB (D:DfD)(gl:Gl)(cl:Cl)(dv:List AV)(hk:List Nat):Option (Ex×St)->Option (AV×Hp×List OB)
 | some (.norm,st)=>dfE D gl cl dv hk st
 | some (.ret,st)=>dfE D gl cl dv hk st
 | _=>none
theorem z8y {dv:List AV}{hk:List Nat}:dfB D gl cl dv hk (some (.norm,st))=dfE D gl cl dv hk st:=rfl
theorem qeg {dv:List AV}{hk:List Nat}:dfB D gl cl dv hk (some (.ret,st))=dfE D gl cl dv hk st:=rfl
theorem zsb {hp hp':Hp}{j:Nat}{s sh:Sh}:zi6 hp hp' j (.lst true s []) (.own sh)=some (.sl (20000+j) [] 0 0,[.grow sh []]):=rfl
attribute [go_sem] zsb z4u zzo z0i z52 z0j qjc z8v z8x z8z qeh z8w dfE z7v z24 z8y qeg
end Go.Ev
namespace Go.Ev
open Go
theorem zeb (k:Nat)(o:OB)(hp:Hp)(j:Nat):Hp.get ((k,o)::hp) j=if k=j then some o else Hp.get hp j:=rfl
def fE (κ:Nat->Nat):Nat->List (List AV)->List AV
 | _,[]=>[]
 | i,l::ls=>(if l.isEmpty then .lst true .sc []else .sl (κ i) [] 0 l.length)::fE κ (i+1) ls
def fH (sh:Sh)(κ:Nat->Nat):Nat->List (List AV)->Hp
 | _,[]=>[]
 | i,l::ls=>fH sh κ (i+1) ls++(if l.isEmpty then []else [(κ i,.grow sh l)])
def fP (κ:Nat->Nat)(base:Nat):Nat->List (List AV)->List (Nat×Nat)
 | _,[]=>[]
 | i,l::ls=>(if l.isEmpty then []else [(κ i,base+i)])++fP κ base (i+1) ls
def nE (ls:List (List AV))(i0 j:Nat):Prop:=∃l,i0<=j/\ls[j-i0]? =some l/\l.isEmpty=false
theorem zg7 {l:List AV}{ls:List (List AV)}{i:Nat}(h:l.isEmpty=false):nE (l::ls) i i:=⟨l,wB _,by simp,h⟩
theorem zeg {l:List AV}{ls:List (List AV)}{i j:Nat}(h:nE ls (i+1) j):nE (l::ls) i j:=by
 obtain⟨m,h1,h2,h3⟩:=h
 refine⟨m,by omega,?_,h3⟩
 rw[show j-i=(j-(i+1))+1 by omega,wO];exact h2
theorem zhd (κ:Nat->Nat):∀(i:Nat) (ls:List (List AV)),(fE κ i ls).length=ls.length
 | _,[]=>rfl
 | i,l::ls=>by rw[fE,wU,zhd κ (i+1) ls,wU]
theorem z37 (κ:Nat->Nat):∀(i:Nat) (ls:List (List AV)) (j:Nat),(fE κ i ls)[j]? =(ls[j]?).map fun l=>if l.isEmpty then .lst true .sc []else .sl (κ (i+j)) [] 0 l.length
 | _,[],j=>by simp[fE]
 | i,l::ls,0=>by simp[fE]
 | i,l::ls,j+1=>by rw[fE,wO,z37 κ (i+1) ls j,wO,show i+1+j=i+(j+1) by omega]
theorem zxa {κ κ':Nat->Nat}:∀{i:Nat} {ls:List (List AV)},(∀j,nE ls i j->κ j=κ' j)->fE κ i ls=fE κ' i ls
 | _,[],_=>rfl
 | i,l::ls,h=>by
   rw[fE,fE,zxa fun j hj=>h j (zeg hj)]
   cases hl:l.isEmpty with
   | true=>rfl
   | false=>rw[h i (zg7 hl)]
theorem zw9 {sh:Sh}{κ κ':Nat->Nat}:∀{i:Nat} {ls:List (List AV)},(∀j,nE ls i j->κ j=κ' j)->fH sh κ i ls=fH sh κ' i ls
 | _,[],_=>rfl
 | i,l::ls,h=>by
   rw[fH,fH,zw9 fun j hj=>h j (zeg hj)]
   cases hl:l.isEmpty with
   | true=>rfl
   | false=>rw[h i (zg7 hl)]
theorem z34 {κ:Nat->Nat}{base:Nat}:∀{i:Nat} {ls:List (List AV)},(∀j,nE ls i j->κ j<SHK)->famL (base+i) (fE κ i ls)=fP κ base i ls
 | _,[],_=>rfl
 | i,l::ls,h=>by
   have ih:=z34 (κ:=κ) (base:=base) (i:=i+1) (ls:=ls) fun j hj=>h j (zeg hj)
   rw[fE,famL,fP,Nat.add_assoc,ih]
   cases hl:l.isEmpty with
   | true=>simp[z0f]
   | false=>simp[z0f,h i (zg7 hl)]
theorem zwz {sh:Sh}{κ:Nat->Nat}{k:Nat}{r:Hp}:∀{i:Nat} {ls:List (List AV)},(∀j,nE ls i j->κ j≠k)->Hp.get (fH sh κ i ls++r) k=Hp.get r k
 | _,[],_=>rfl
 | i,l::ls,h=>by
   rw[fH,wQ,zwz fun j hj=>h j (zeg hj)]
   cases hl:l.isEmpty with
   | true=>rfl
   | false =>
     show Hp.get ((κ i,_)::r) k=_
     rw[zeb,if_neg (h i (zg7 hl))]
theorem zs0 {sh:Sh}{κ:Nat->Nat}{r:Hp}:∀{i:Nat} {ls:List (List AV)} {j:Nat} {l:List AV},(∀a b,nE ls i a->nE ls i b->κ a=κ b->a=b)->ls[j]? =some l->l.isEmpty=false->Hp.get (fH sh κ i ls++r) (κ (i+j))=some (.grow sh l)
 | _,[],_,_,_,h,_=>by simp at h
 | i,l::ls,0,m,hi,h,he=>by
   simp only[w1,wL]at h
   subst h
   rw[fH,wQ,zwz fun j hj e=>by
    have:=hi j i (zeg hj) (zg7 he) e
    obtain⟨_,h1,_⟩:=hj
    omega]
   simp[he,zeb]
 | i,l::ls,j+1,m,hi,h,he=>by
   rw[fH,wQ,show i+(j+1)=(i+1)+j by omega]
   exact zs0 (fun a b ha hb=>hi a b (zeg ha) (zeg hb)) (by simpa using h) he
theorem zmm {st:St}{sh:Sh}{κ:Nat->Nat}{base:Nat}{rest:List Kp}:∀{i:Nat} {ls:List (List AV)} {acc:St},(∀j l,ls[j]? =some l->l.isEmpty=false->st.hp.get (κ (i+j))=some (.grow sh l)) ->
  zfy st (ze5 (fP κ base i ls)++rest) acc=zfy st rest {acc with hp:=fH sh κ i ls++acc.hp}
 | _,[],acc,_=>rfl
 | i,l::ls,acc,h=>by
   have ht:∀j m,ls[j]? =some m->m.isEmpty=false->st.hp.get (κ ((i+1)+j))=some (.grow sh m):=fun j m h1 h2=>by
    have:=h (j+1) m (by simpa using h1) h2
    rwa [show i+(j+1)=(i+1)+j by omega]at this
   cases hl:l.isEmpty with
   | true =>
     rw[fP,hl,fH,hl]
     simp only[if_true,wW,wY]
     exact zmm ht
   | false =>
     have h0:=h 0 l rfl hl
     rw[wC]at h0
     rw[fP,hl,fH,hl]
     simp only[w3,if_false]
     show zfy st (.key (κ i)::(ze5 (fP κ base (i+1) ls)++rest)) acc=_
     rw[zfy,zka,h0]
     simp only[wK]
     rw[zmm ht]
     simp only[wQ,wR]
mutual
theorem qcm {ρ:Nat->Nat}:∀(a:AV),(∀j∈a.refs,ρ j=j)->rA ρ a=a
 | .sl k p o l,h=>by rw[rA,h k (by simp[AV.refs])]
 | .ptr k p,h=>by rw[rA,h k (by simp[AV.refs])]
 | .arp k p o n,h=>by rw[rA,h k (by simp[AV.refs])]
 | .yld k,h=>by rw[rA,h k (by simp[AV.refs])]
 | .mp k,h=>by rw[rA,h k (by simp[AV.refs])]
 | .aggR l,h=>by rw[rA,zr1 l (by rwa [AV.refs]at h)]
 | .tup l,h=>by rw[rA,zr1 l (by rwa [AV.refs]at h)]
 | .fn f l,h=>by rw[rA,zr1 l (by rwa [AV.refs]at h)]
 | .unk,_=>rfl
 | .bool _,_=>rfl
 | .int _ _,_=>rfl
 | .str _,_=>rfl
 | .s _,_=>rfl
 | .agg _,_=>rfl
 | .lst _ _ _,_=>rfl
 | .cp _ _,_=>rfl
theorem zr1 {ρ:Nat->Nat}:∀(l:List AV),(∀j∈AV.refss l,ρ j=j)->rAs ρ l=l
 | [],_=>rfl
 | a::l,h=>by
   rw[AV.refss]at h
   rw[rAs,qcm a fun j hj=>h j (by simp[hj]),zr1 l fun j hj=>h j (by simp[hj])]
end
theorem qhd {ρ:Nat->Nat}{o:OB}(h:∀j∈zdd o,ρ j=j):rOB ρ o=o:=by
 cases o with
 | fix sh a=>rw[rOB,qcm a h]
 | lp r v s=>rw[rOB,zr1 v h]
 | _=>rfl
def okF (X:List Nat):Fr->Bool
 | []=>true
 | .set _ v::r=>v.refs.all X.contains&&okF X r
 | .clr _ _::r=>okF X r
def okH (X:List Nat):Hp->Bool
 | []=>true
 | (k,o)::r=>X.contains k&&(zdd o).all X.contains&&okH X r
theorem zvu {X:List Nat}{k q j:Nat}(hk:k∉X)(hq:q∉X)(hj:j∈X):sw k q j=j:=by
 have h1:¬j=k:=fun e=>hk (e▸hj)
 have h2:¬j=q:=fun e=>hq (e▸hj)
 unfold sw
 rw[if_neg h1,if_neg h2]
theorem zub {X:List Nat}{k q:Nat}(hk:k∉X)(hq:q∉X):∀{fr:Fr},okF X fr=true->rnFr k q fr=fr
 | [],_=>rfl
 | .set i v::r,h=>by
   simp only[okF,w4,wV]at h
   rw[rnFr,zub hk hq h.2,qcm v fun j hj=>zvu hk hq (wS.1 (h.1 j hj))]
 | .clr a b::r,h=>by
   have:=zub hk hq (fr:=r) h
   show FE.clr a b::rnFr k q r=_
   rw[this]
theorem zpp {X:List Nat}{k q:Nat}(hk:k∉X)(hq:q∉X):∀{hp:Hp},okH X hp=true->rnHp k q hp=hp
 | [],_=>rfl
 | (j,o)::r,h=>by
   simp only[okH,w4,wV]at h
   rw[rnHp,zpp hk hq h.2,zvu hk hq (wS.1 h.1.1),qhd fun i hi=>zvu hk hq (wS.1 (h.1.2 i hi))]
theorem zi0 (k q:Nat):∀(a b:Hp),rnHp k q (a++b)=rnHp k q a++rnHp k q b
 | [],b=>rfl
 | (j,o)::a,b=>by rw[wP,rnHp,zi0 k q a b,rnHp];rfl
theorem z04 (sh:Sh)(κ:Nat->Nat)(k q:Nat):∀(i:Nat) (ls:List (List AV)),rnHp k q (fH sh κ i ls)=fH sh (fun j=>sw k q (κ j)) i ls
 | _,[]=>rfl
 | i,l::ls=>by
   rw[fH,zi0,z04 sh κ k q (i+1) ls,fH]
   cases l.isEmpty<;>rfl
theorem z9t (κ:Nat->Nat)(k q:Nat):∀(i:Nat) (ls:List (List AV)),rAs (sw k q) (fE κ i ls)=fE (fun j=>sw k q (κ j)) i ls
 | _,[]=>rfl
 | i,l::ls=>by
   rw[fE,rAs,z9t κ k q (i+1) ls,fE]
   cases l.isEmpty<;>rfl
def fT (fr:Fr)(A B C:Hp)(q0 N:Nat)(sh:Sh)(κ:Nat->Nat)(ls:List (List AV)):St :=
 {fr:=fr,hp:=A++(fH sh κ 0 ls++(B++((q0,.fix (.ar N .sc) (.aggR (fE κ 0 ls)))::C)))}
theorem zlm {fr:Fr}{A B C:Hp}{q0 N:Nat}{sh:Sh}{κ κ':Nat->Nat}{ls:List (List AV)}(h:∀j,nE ls 0 j->κ j=κ' j):fT fr A B C q0 N sh κ ls=fT fr A B C q0 N sh κ' ls:=by
 unfold fT;rw[zw9 h,zxa h]
section
variable {fr :Fr} {A B C:Hp} {q0 N:Nat} {sh:Sh} {ls:List (List AV)} {X:List Nat} {base:Nat}
 (h0:q0∈X) (hF:okF X fr=true) (hA:okH X A=true) (hB:okH X B=true) (hC:okH X C=true)
include h0 hF hA hB hC
theorem qkp {κ:Nat->Nat}{k q:Nat}(hk:k∉X)(hq:q∉X)(hlt:k<SHK/\q<SHK):rn1 q (fT fr A B C q0 N sh κ ls) (some k)=some (fT fr A B C q0 N sh (fun j=>sw k q (κ j)) ls):=by
 unfold rn1
 by_cases e:k=q
 . subst e
   simp only[if_true,wL]
   exact zlm fun j _=>by unfold sw;split<;>simp_all
 . simp only[if_neg e,if_pos hlt,fT,wL]
   rw[zub hk hq hF,zi0,zi0,zi0,zpp hk hq hA,zpp hk hq hB,z04,rnHp,zpp hk hq hC,zvu hk hq h0,rOB,rA,z9t]
theorem z6f (hX:∀x∈X,∀j,j<ls.length->x≠base+j)(hb:base+ls.length<SHK){κ:Nat->Nat}(hκ:∀j,nE ls 0 j->κ j=base+j\/κ j<base)(hκX:∀j,nE ls 0 j->κ j∉X)(hinj:∀a b,nE ls 0 a->nE ls 0 b->κ a=κ b->a=b) :
  zjy (fP κ base 0 ls) (fT fr A B C q0 N sh κ ls)=some (fT fr A B C q0 N sh (fun j=>base+j) ls):=by
 have key:∀(tl:List (List AV)) (m:Nat),(∀j,tl[j]? =ls[m+j]?)->m+tl.length=ls.length ->
   zjy (fP κ base m tl) (fT fr A B C q0 N sh (fun j=>if j<m then base+j else κ j) ls)=some (fT fr A B C q0 N sh (fun j=>base+j) ls):=by
  intro tl
  induction tl with
  | nil =>
    intro m _ hl
    simp only[List.length_nil,wC]at hl
    rw[fP,zjy]
    congr 1
    refine zlm fun j hj=> ?_
    obtain⟨l,_,h2,_⟩:=hj
    have:j<ls.length:=by
     have:=(wZ.1 h2).1
     omega
    rw[if_pos (by omega)]
  | cons l tl ih =>
    intro m hget hl
    have hm:ls[m]? =some l:=by have:=hget 0;simpa using this.symm
    have ih':=ih (m+1) (fun j=>by have:=hget (j+1);rw[wO]at this;rw[this];congr 1;omega) (by rw[wU]at hl;omega)
    rw[fP]
    cases hle:l.isEmpty with
    | true =>
      simp only[if_true,wW]
      rw[<-ih']
      congr 1
      refine zlm fun j hj=> ?_
      by_cases e:j=m
      . exfalso
        obtain⟨l',_,h2,h3⟩:=hj
        rw[wG,e,hm]at h2
        cases h2
        rw[hle]at h3;cases h3
      . by_cases e2:j<m
        . rw[if_pos e2,if_pos (by omega)]
        . rw[if_neg e2,if_neg (by omega)]
    | false =>
      have hnm:nE ls 0 m:=⟨l,wH _,by simpa using hm,hle⟩
      have hlt:m<ls.length:=by rw[<-hl];simp
      simp only[w3,if_false,wR]
      rw[zjy]
      simp only
      have hk:=hκX m hnm
      have hq:base+m∉X:=fun h=>hX _ h m hlt rfl
      have hks:κ m<SHK:=by rcases hκ m hnm with e|e<;>omega
      rw[qkp h0 hF hA hB hC hk hq ⟨hks,by omega⟩]
      simp only[wK]
      rw[<-ih']
      congr 1
      refine zlm fun j hj=> ?_
      by_cases e:j=m
      . subst e
        rw[if_neg (Nat.lt_irrefl _),if_pos (Nat.lt_succ_self _)]
        unfold sw;rw[if_pos rfl]
      . by_cases e2:j<m
        . rw[if_pos e2,if_pos (by omega)]
          unfold sw
          rw[if_neg,if_neg (by omega)]
          rcases hκ m hnm with e3|e3
          . omega
          . omega
        . rw[if_neg e2,if_neg (by omega)]
          unfold sw
          rw[if_neg (fun e3=>e (hinj _ _ hj hnm e3)),if_neg]
          rcases hκ j hj with e3|e3<;>omega
 have:=key ls 0 (fun j=>by rw[wF]) (by omega)
 rw[<-this]
 congr 1
end
theorem zsk {st:St}:∀(a b:List Kp) (acc:St),zfy st (a++b) acc=(zfy st a acc).bind (zfy st b)
 | [],b,acc=>rfl
 | x::a,b,acc=>by
   rw[wP,zfy,zfy]
   cases zka st acc x with
   | none=>rfl
   | some s=>simp only[wK];exact zsk a b s
theorem zqg :∀(a b:List Kp),Kp.keys (a++b)=Kp.keys a++Kp.keys b
 | [],b=>rfl
 | x::a,b=>by cases x<;>simp[Kp.keys,zqg a b]
theorem zp0 :∀(a b:List Kp),Kp.owns (a++b)=Kp.owns a++Kp.owns b
 | [],b=>rfl
 | x::a,b=>by cases x<;>simp[Kp.owns,zp0 a b]
theorem zj3 (st:St):∀(a b:List Kp),Kp.ownSrc st (a++b)=Kp.ownSrc st a++Kp.ownSrc st b
 | [],b=>rfl
 | x::a,b=>by cases x<;>simp[Kp.ownSrc,zj3 st a b]
theorem zgy (st:St):∀(a b:List Kp),Kp.slotRefs st (a++b)=Kp.slotRefs st a++Kp.slotRefs st b
 | [],b=>rfl
 | x::a,b=>by cases x<;>simp[Kp.slotRefs,zgy st a b]
theorem zp6 (hp:Hp):∀(a b:List Kp),mvKs hp (a++b)=mvKs hp a++mvKs hp b
 | [],b=>rfl
 | x::a,b=>by
   cases x with
   | mv q p k =>
     simp only[wP,mvKs,zp6 hp a b]
     cases zm7 hp q p<;>rfl
   | _=>simp[mvKs,zp6 hp a b]
theorem zge (hp:Hp):∀(a b:List Kp) (s:St),rnMv hp (a++b) s=(rnMv hp a s).bind (rnMv hp b)
 | [],b,s=>rfl
 | x::a,b,s=>by
   cases x with
   | mv q p k =>
     simp only[wP,rnMv]
     cases rn1 k s (zm7 hp q p)with
     | none=>rfl
     | some t=>simp only[wK];exact zge hp a b t
   | fam q k =>
     simp only[wP,rnMv]
     cases zjy (zqq hp q k) s with
     | none=>rfl
     | some t=>simp only[wK];exact zge hp a b t
   | slot _=>simpa[rnMv]using zge hp a b s
   | own _ _ _=>simpa[rnMv]using zge hp a b s
   | key _=>simpa[rnMv]using zge hp a b s
   | frz _ _=>simpa[rnMv]using zge hp a b s
theorem zdy :∀(a b:List Kp) (s:St),zcj (a++b) s=(zcj a s).bind (zcj b)
 | [],b,s=>rfl
 | x::a,b,s=>by
   cases x with
   | frz q p =>
     simp only[wP,zcj]
     cases frz1 s q p with
     | none=>rfl
     | some t=>simp only[wK];exact zdy a b t
   | slot _=>simpa[zcj]using zdy a b s
   | own _ _ _=>simpa[zcj]using zdy a b s
   | key _=>simpa[zcj]using zdy a b s
   | mv _ _ _=>simpa[zcj]using zdy a b s
   | fam _ _=>simpa[zcj]using zdy a b s
theorem zym (ps:List (Nat×Nat)):Kp.keys (ze5 ps)=ps.map (·.1):=by
 induction ps with
 | nil=>rfl
 | cons p ps ih =>
   show Kp.keys (.key p.1::ze5 ps)=_
   rw[Kp.keys,ih];rfl
theorem zyl (ps:List (Nat×Nat)):Kp.owns (ze5 ps)=[]:=by
 induction ps with
 | nil=>rfl
 | cons p ps ih=>exact ih
theorem zsj (st:St)(ps:List (Nat×Nat)):Kp.ownSrc st (ze5 ps)=[]:=by
 induction ps with
 | nil=>rfl
 | cons p ps ih=>exact ih
theorem zol {κ:Nat->Nat}{base:Nat}:∀{i:Nat} {ls:List (List AV)} {k:Nat},k∈(fP κ base i ls).map (·.1)↔∃j,nE ls i j/\k=κ j
 | i,[],k=>by simp[fP,nE]
 | i,l::ls,k=>by
   rw[fP,wX,wN,zol]
   constructor
   . rintro (h|⟨j,h1,h2⟩)
     . cases hl:l.isEmpty with
       | true=>rw[hl]at h;simp at h
       | false=>rw[hl]at h;simp at h;exact⟨i,zg7 hl,h⟩
     . exact⟨j,zeg h1,h2⟩
   . rintro ⟨j,⟨m,h1,h2,h3⟩,rfl⟩
     by_cases e:j=i
     . subst e
       rw[wD,w1]at h2
       cases h2
       left;simp[h3]
     . refine .inr ⟨j,⟨m,by omega,?_,h3⟩,rfl⟩
       rw[show j-i=(j-(i+1))+1 by omega,wO]at h2;exact h2
theorem zw8 {κ:Nat->Nat}{base:Nat}:∀{i:Nat} {ls:List (List AV)},(∀a b,nE ls i a->nE ls i b->κ a=κ b->a=b)->((fP κ base i ls).map (·.1)).Nodup
 | i,[],_=>by simp[fP]
 | i,l::ls,h=>by
   have ih:=zw8 (κ:=κ) (base:=base) (i:=i+1) (ls:=ls) fun a b ha hb=>h a b (zeg ha) (zeg hb)
   rw[fP,wX]
   cases hl:l.isEmpty with
   | true=>simpa using ih
   | false =>
     simp only[w3,if_false,w0,List.map_nil,wR,List.nodup_cons]
     refine⟨fun hm=> ?_,ih⟩
     obtain⟨j,hj,e⟩:=zol.1 hm
     have:=h i j (zg7 hl) (zeg hj) e
     obtain⟨_,h1,_⟩:=hj
     omega
theorem zny :∀{l:List Nat},ze4 l=true↔l.Nodup
 | []=>by simp[ze4]
 | a::l=>by simp[ze4,zny (l:=l)]
theorem zkz {st:St}{sh:Sh}{κ:Nat->Nat}{base:Nat}:∀{i:Nat} {ls:List (List AV)},(∀j l,ls[j]? =some l->l.isEmpty=false->st.hp.get (κ (i+j))=some (.grow sh l))->Kp.slotRefs st (ze5 (fP κ base i ls))=[]
 | _,[],_=>rfl
 | i,l::ls,h=>by
   have ih:=zkz (st:=st) (sh:=sh) (κ:=κ) (base:=base) (i:=i+1) (ls:=ls) fun j m h1 h2=>by
    have:=h (j+1) m (by simpa using h1) h2
    rwa [show i+(j+1)=(i+1)+j by omega]at this
   rw[fP]
   cases hl:l.isEmpty with
   | true=>simpa using ih
   | false =>
     have h0:=h 0 l rfl hl
     rw[wC]at h0
     simp only[w3,if_false,wR]
     show Kp.slotRefs st (.key (κ i)::ze5 (fP κ base (i+1) ls))=[]
     rw[Kp.slotRefs,ih,h0];rfl
theorem zzt {st:St}{ks0 bg:List Kp}{q0 base N:Nat}{sh:Sh}{κ:Nat->Nat}{ls:List (List AV)}{fr:Fr}{A B C:Hp}{X:List Nat}
  (k1:mvKs st.hp ks0=ks0) (k2:Kp.owns ks0=[]) (k2':Kp.ownSrc st ks0=[])
  (k3:zfy st ks0 {fr:=[],hp:=[]}=some {fr:=fr,hp:=B++(q0,.fix (.ar N .sc) (.aggR (fE κ 0 ls)))::C})
  (k4:bigs st.hp 64 0=bg) (k5:∀s:St,zfy st bg s=some {fr:=s.fr,hp:=A++s.hp}) (k6:Kp.owns bg=[]) (k6':Kp.ownSrc st bg=[])
  (k7:ze4 (Kp.keys ks0++Kp.keys bg)=true) (k8:∀k∈Kp.keys ks0++Kp.keys bg,k∈X)
  (k9:∀k∈Kp.slotRefs st ks0++Kp.slotRefs st bg,k∈Kp.keys ks0++Kp.keys bg\/∃j,nE ls 0 j/\k=κ j)
  (k10:∀s,rnMv st.hp ks0 s=some s) (k11:∀s,zcj ks0 s=some s)
  (hq0:st.hp.get q0=some (.fix (.ar N .sc) (.aggR (fE κ 0 ls)))) (hget:∀j l,ls[j]? =some l->l.isEmpty=false->st.hp.get (κ j)=some (.grow sh l))
  (h0:q0∈X) (hF:okF X fr=true) (hA:okH X A=true) (hB:okH X B=true) (hC:okH X C=true)
  (hX:∀x∈X,∀j,j<ls.length->x≠base+j) (hb:base+ls.length<SHK) (hκ:∀j,nE ls 0 j->κ j=base+j\/κ j<base) (hκX:∀j,nE ls 0 j->κ j∉X) (hinj:∀a b,nE ls 0 a->nE ls 0 b->κ a=κ b->a=b) :
  ∀tl:List Kp,(∀hp,mvKs hp tl=[])->(∀hp s,rnMv hp tl s=some s)->zcr (ks0++.fam q0 base::tl) st=zcj tl (fT fr A B C q0 N sh (fun j=>base+j) ls):=by
 intro tl t1 t2
 have hlt:∀j,nE ls 0 j->κ j<SHK:=fun j hj=>by
  have:j<ls.length:=by
   obtain⟨l,_,h2,_⟩:=hj
   have:=(wZ.1 h2).1
   omega
  rcases hκ j hj with e|e<;>omega
 have hfam:zqq st.hp q0 base=fP κ base 0 ls:=by
  unfold zqq
  rw[hq0]
  exact z34 (i:=0) hlt
 have hget':∀j l,ls[j]? =some l->l.isEmpty=false->st.hp.get (κ (0+j))=some (.grow sh l):=fun j l h1 h2=>by rw[wF];exact hget j l h1 h2
 have hmv:mvKs st.hp (ks0++.fam q0 base::tl)=ks0++ze5 (fP κ base 0 ls):=by
  rw[zp6,k1]
  show ks0++(ze5 (zqq st.hp q0 base)++mvKs st.hp tl)=_
  rw[hfam,t1,wY]
 have hks:ksA (mvKs st.hp (ks0++.fam q0 base::tl)) st=ks0++(ze5 (fP κ base 0 ls)++bg):=by
  unfold ksA;rw[hmv,k4,wQ]
 have hkeys:Kp.keys (ks0++(ze5 (fP κ base 0 ls)++bg))=Kp.keys ks0++((fP κ base 0 ls).map (·.1)++Kp.keys bg):=by rw[zqg,zqg,zym]
 have howns:Kp.owns (ks0++(ze5 (fP κ base 0 ls)++bg))=[]:=by rw[zp0,zp0,k2,zyl,k6];rfl
 have hsrc:Kp.ownSrc st (ks0++(ze5 (fP κ base 0 ls)++bg))=[]:=by rw[zj3,zj3,k2',zsj,k6'];rfl
 have hnd:ze4 (Kp.keys ks0++((fP κ base 0 ls).map (·.1)++Kp.keys bg))=true:=by
  rw[zny]at k7 ⊢
  have d1:=wT.1 k7
  have dis:∀a∈Kp.keys ks0++Kp.keys bg,∀b∈(fP κ base 0 ls).map (·.1),a≠b:=fun a ha b hb e=>by
   obtain⟨j,hj,rfl⟩:=zol.1 hb
   exact hκX j hj (e▸k8 a ha)
  rw[wT]
  refine⟨d1.1,wT.2 ⟨zw8 hinj,d1.2.1,fun a ha b hb e=>dis b (wN.2 (.inr hb)) a ha e.symm⟩,fun a ha b hb=> ?_⟩
  rcases wN.1 hb with hb|hb
  . exact dis a (wN.2 (.inl ha)) b hb
  . exact d1.2.2 a ha b hb
 have hrefs:(Kp.slotRefs st (ks0++(ze5 (fP κ base 0 ls)++bg))).all (fun k=>(Kp.keys (ks0++(ze5 (fP κ base 0 ls)++bg))).contains k)=true:=by
  rw[wV]
  intro k hk
  rw[zgy,zgy,zkz hget',wW]at hk
  rw[hkeys,wS]
  rcases k9 k hk with h|⟨j,hj,rfl⟩
  . rcases wN.1 h with h|h
    . exact wN.2 (.inl h)
    . exact wN.2 (.inr (wN.2 (.inr h)))
  . exact wN.2 (.inr (wN.2 (.inl (zol.2 ⟨j,hj,rfl⟩))))
 have hkp:zfy st (ks0++(ze5 (fP κ base 0 ls)++bg)) {fr:=[],hp:=[]}=some (fT fr A B C q0 N sh κ ls):=by
  rw[zsk,k3]
  simp only[wK]
  rw[zmm hget',k5];rfl
 have hc0:zow (ksA (mvKs st.hp (ks0++.fam q0 base::tl)) st) st=some (fT fr A B C q0 N sh κ ls):=by
  unfold zow
  rw[hks,howns,hsrc,wY,hkeys,hnd]
  rw[hkeys]at hrefs
  rw[hrefs]
  exact hkp
 unfold zcr zxl
 rw[hc0]
 simp only[wK]
 rw[zge,k10]
 simp only[wK,rnMv,hfam]
 rw[z6f h0 hF hA hB hC hX hb hκ hκX hinj]
 simp only[wK]
 rw[t2]
 simp only[wK]
 rw[zdy,k11]
 rfl
def lV (sh:Sh)(l:List AV):AV:=if l.isEmpty then .lst true .sc []else .lst false sh l
def fKs (κ:Nat->Nat):Nat->List (List AV)->List Nat
 | _,[]=>[]
 | i,l::ls=>(if l.isEmpty then []else [κ i])++fKs κ (i+1) ls
theorem zw3 {hp:Hp}{sh:Sh}{κ:Nat->Nat}:∀{i:Nat} {ls:List (List AV)},(∀j l,ls[j]? =some l->l.isEmpty=false->hp.get (κ (i+j))=some (.grow sh l))->zjg hp (fE κ i ls)=some (ls.map (lV sh),fKs κ i ls)
 | _,[],_=>rfl
 | i,l::ls,h=>by
   have ih:=zw3 (hp:=hp) (sh:=sh) (κ:=κ) (i:=i+1) (ls:=ls) fun j m h1 h2=>by
    have:=h (j+1) m (by simpa using h1) h2
    rwa [show i+(j+1)=(i+1)+j by omega]at this
   rw[fE,zjg,ih,fKs,w0,lV]
   cases hl:l.isEmpty with
   | true=>rfl
   | false =>
     have h0:=h 0 l rfl hl
     rw[wC]at h0
     simp only[w3,if_false,frzE,h0,wB,if_true,List.take_length,wK,wM]
theorem z35 {κ:Nat->Nat}:∀{i:Nat} {ls:List (List AV)} {k:Nat},k∈fKs κ i ls↔∃j,nE ls i j/\k=κ j
 | i,[],k=>by simp[fKs,nE]
 | i,l::ls,k=>by
   have:=zol (κ:=κ) (base:=0) (i:=i) (ls:=l::ls) (k:=k)
   rw[<-this,fKs,fP,wX,wN,wN,z35,zol]
   cases l.isEmpty<;>simp
theorem zs1 {r:Hp}{k:Nat}:∀{K:List Nat},k∉K->Hp.get (zik K++r) k=Hp.get r k
 | [],_=>rfl
 | j::K,h=>by
   simp only[w2,not_or]at h
   show Hp.get ((j,.dead)::(zik K++r)) k=_
   rw[zeb,if_neg (fun e=>h.1 e.symm),zs1 h.2]
end Go.Ev
namespace Go.Ev
open Go
theorem zmo {α:Type}{f:St->Option (Ex×St)}{ks:List Kp}(S:α->St)(Inv Fin:α->Prop)(μ:α->Nat){a0:α}(hN:μ a0<LF)(hI:Inv a0)
  (hs:∀a,Inv a->(Fin a/\isEx (f (S a))=true)\/∃a',Inv a'/\μ a'<μ a/\zaz ks (f (S a))=some (S a')) :
  ∃a,Inv a/\Fin a/\∀st,zcr ks st=some (S a0)->iter f ks LF st=f (S a):=by
 have key:∀(m n:Nat) (a:α),μ a<=m->m<n->Inv a->∃a',Inv a'/\Fin a'/\∀st,zcr ks st=some (S a)->iter f ks n st=f (S a'):=by
  intro m
  induction m with
  | zero =>
    intro n a hm hn hi
    obtain⟨n,rfl⟩:∃k,n=k+1:=⟨n-1,by omega⟩
    rcases hs a hi with ⟨h1,h2⟩|⟨a',h1,h2,h3⟩
    . refine⟨a,hi,h1,fun st hc=> ?_⟩
      cases hf:f (S a)with
      | none=>rw[hf]at h2;cases h2
      | some r =>
        obtain⟨e,out⟩:=r
        exact zhx hc hf (by rw[hf]at h2;cases e<;>simp_all[isEx])
    . omega
  | succ m ih =>
    intro n a hm hn hi
    obtain⟨n,rfl⟩:∃k,n=k+1:=⟨n-1,by omega⟩
    rcases hs a hi with ⟨h1,h2⟩|⟨a',h1,h2,h3⟩
    . refine⟨a,hi,h1,fun st hc=> ?_⟩
      cases hf:f (S a)with
      | none=>rw[hf]at h2;cases h2
      | some r =>
        obtain⟨e,out⟩:=r
        exact zhx hc hf (by rw[hf]at h2;cases e<;>simp_all[isEx])
    . unfold zaz at h3
      split at h3
      . rename_i st2 hf
        obtain⟨b,g1,g2,g3⟩:=ih n a' (by omega) (by omega) h1
        exact⟨b,g1,g2,fun st hc=>(zje hc hf).trans (g3 st2 h3)⟩
      . cases h3
 exact key (μ a0) LF a0 (wB _) hN hI
end Go.Ev
