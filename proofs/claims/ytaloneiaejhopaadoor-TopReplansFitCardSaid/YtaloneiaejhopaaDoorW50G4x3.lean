/-
  What gateways may send to origins, and while one plan takes the place of another one (plain Lean). No condition; no program.
-/
import Derived.Test.YtaloneiaejhopaaDoorW50G3x3
import Derived.Test.YtaloneiaejhopaaDoorW50
import Derived.Test.YtaloneiaejhopaaDoorEvY
set_option linter.all false
open List renaming getD_eq_getElem?_getD->wB,getElem?_eq_getElem->wC,cons_append->wD,dropLast_concat_getLast->wE,getElem?_append_left->wF,mem_cons->wG,any_cons->wH,length_eq_zero_iff->wJ,getElem_mem->wK
open Int renaming le_refl->wL
namespace Go.Fl
structure Al where
 g:Int
 o:Int
 n:Int
def alt (l:List Al)(i:Nat):Al:=l.getD i ⟨0,0,0⟩
def sm (g o:Int)(a:Al):Bool:=decide (a.g=g)&&decide (a.o=o)
def fnd (l:List Al)(g o:Int):Option Nat:=l.findIdx? (sm g o)
def putA (l:List Al)(g o v:Int):List Al :=
 match fnd l g o with
 | some k=>l.set k ⟨g,o,(alt l k).n+v⟩
 | none=>l++[⟨g,o,v⟩]
def sO (o:Int):List Al->Int
 | []=>0
 | a::l=>(if a.o=o then a.n else 0)+sO o l
def ND :List Al->Prop
 | []=>True
 | a::l=>0<=a.n/\(∀b∈l,sm a.g a.o b=false)/\ND l
theorem znp {g o:Int}{a:Al}:sm g o a=true↔a.g=g/\a.o=o:=by simp[sm]
theorem zvy (o:Int):∀(l m:List Al),sO o (l++m)=sO o l+sO o m
 | [],m=>by simp[sO]
 | a::l,m=>by rw[wD,sO,sO,zvy o l m];omega
theorem zjj (a:Al)(l:List Al)(g o:Int):fnd (a::l) g o=if sm g o a=true then some 0 else(fnd l g o).map (· +1):=by
 unfold fnd;rw[List.findIdx?_cons]
theorem zic {a:Al}{l:List Al}{g o v:Int}(h:sm g o a=true):putA (a::l) g o v=⟨g,o,a.n+v⟩::l:=by
 unfold putA;rw[zjj,if_pos h];rfl
theorem zid {a:Al}{l:List Al}{g o v:Int}(h:sm g o a=false):putA (a::l) g o v=a::putA l g o v:=by
 unfold putA;rw[zjj,if_neg (by rw[h];decide)]
 cases fnd l g o with
 | none=>rfl
 | some k=>simp[alt]
theorem z9r (o':Int):∀(l:List Al) (g o v:Int),sO o' (putA l g o v)=sO o' l+if o=o' then v else 0
 | [],g,o,v=>by simp[putA,fnd,sO]
 | a::l,g,o,v=>by
   cases h:sm g o a with
   | true =>
     have:=(znp.1 h).2
     rw[zic h,sO,sO,this]
     simp only
     split<;>omega
   | false=>rw[zid h,sO,sO,z9r o' l g o v];omega
theorem zv6 :∀{l:List Al} {g o v:Int} {b:Al},b∈putA l g o v->(b.g=g/\b.o=o)\/b∈l
 | [],g,o,v,b,h=>by simp[putA,fnd]at h;subst h;exact .inl ⟨rfl,rfl⟩
 | a::l,g,o,v,b,h=>by
   cases hs:sm g o a with
   | true =>
     rw[zic hs,wG]at h
     rcases h with rfl|h
     . exact .inl ⟨rfl,rfl⟩
     . exact .inr (by simp[h])
   | false =>
     rw[zid hs,wG]at h
     rcases h with rfl|h
     . exact .inr (by simp)
     . rcases zv6 h with h1|h1
       . exact .inl h1
       . exact .inr (by simp[h1])
theorem z9z :∀{l:List Al} {g o v:Int},ND l->0<=v->ND (putA l g o v)
 | [],g,o,v,_,hv=>by simp[putA,fnd,ND,hv]
 | a::l,g,o,v,h,hv=>by
   obtain⟨h1,h2,h3⟩:=h
   cases hs:sm g o a with
   | true =>
     obtain⟨e1,e2⟩:=znp.1 hs
     rw[zic hs]
     refine⟨by show 0<=a.n+v;omega,fun b hb=> ?_,h3⟩
     show sm g o b=false
     have:=h2 b hb
     rwa [e1,e2]at this
   | false =>
     rw[zid hs]
     refine⟨h1,fun b hb=> ?_,z9z h3 hv⟩
     rcases zv6 hb with ⟨e1,e2⟩|hb
     . cases hq:sm a.g a.o b with
       | false=>rfl
       | true =>
         obtain⟨e3,e4⟩:=znp.1 hq
         have:sm g o a=true:=znp.2 ⟨by rw[<-e3,e1],by rw[<-e4,e2]⟩
         rw[this]at hs;cases hs
     . exact h2 b hb
def alo (p:List Sp)(r:List Rd)(x:List Int):Nat->List Al
 | 0=>[]
 | i+1=>if(spt p (rdt r i).f.toNat).kd=2/\(spt p (rdt r i).t.toNat).kd=3 then putA (alo p r x i) (spt p (rdt r i).f.toNat).nu (spt p (rdt r i).t.toNat).nu (nth x i)else alo p r x i
theorem zxo {p:List Sp}{r:List Rd}{x:List Int}(hx:∀i,0<=nth x i):∀i,ND (alo p r x i)
 | 0=>trivial
 | i+1=>by
   rw[alo];split
   . exact z9z (zxo hx i) (hx i)
   . exact zxo hx i
def sTo (r:List Rd)(x:List Int)(t:Nat):Nat->Int
 | 0=>0
 | i+1=>sTo r x t i+if(rdt r i).t=t then nth x i else 0
theorem qam {p:List Sp}{r:List Rd}(h:POk p r){x:List Int}(hx:∀i,0<=nth x i){t:Nat}(ht:t<p.length)(hk:(spt p t).kd=3):∀{i:Nat},i<=r.length->sO (spt p t).nu (alo p r x i)<=sTo r x t i
 | 0,_=>wL _
 | i+1,hi=>by
   have ih:=qam h hx ht hk (show i<=r.length by omega)
   have h0:=hx i
   have hr:=h.rf i (by omega)
   rw[alo,sTo]
   by_cases hc:(spt p (rdt r i).f.toNat).kd=2/\(spt p (rdt r i).t.toNat).kd=3
   . rw[if_pos hc,z9r]
     by_cases he:(spt p (rdt r i).t.toNat).nu=(spt p t).nu
     . have hti:(rdt r i).t.toNat=t:=by
        rcases Nat.lt_trichotomy (rdt r i).t.toNat t with h1|h1|h1
        . exact absurd ⟨by rw[hc.2,hk],he⟩ (h.tw _ _ h1 ht)
        . exact h1
        . exact absurd ⟨by rw[hc.2,hk],he.symm⟩ (h.tw _ _ h1 (by omega))
       rw[if_pos he,if_pos (by omega)];omega
     . rw[if_neg he];split<;>omega
   . rw[if_neg hc];split<;>omega
theorem qb8 (r:List Rd)(x:List Int)(t:Nat)(hl:x.length=r.length):sTo r x t r.length=sRd (fun y=>decide (y.t=t)) r x:=by
 have key:∀(n:Nat) {r:List Rd} {x:List Int},r.length=n->x.length=n->sTo r x t n=sRd (fun y=>decide (y.t=t)) r x:=by
  have app:∀(Q:Rd->Bool) (r:List Rd) (x:List Int) (a:Rd) (b:Int),r.length=x.length->sRd Q (r++[a]) (x++[b])=sRd Q r x+if Q a then b else 0:=by
   intro Q r
   induction r with
   | nil=>intro x a b h;obtain rfl:=wJ.1 h.symm;simp[sRd]
   | cons c r ih =>
     intro x a b h
     cases x with
     | nil=>simp at h
     | cons d x=>rw[wD,wD,sRd,sRd,ih x a b (by simpa using h)];omega
  have ext:∀{r r':List Rd} {x x':List Int} {m:Nat},(∀i,i<m->rdt r i=rdt r' i/\nth x i=nth x' i)->sTo r x t m=sTo r' x' t m:=by
   intro r r' x x' m
   induction m with
   | zero=>intro _;rfl
   | succ m ih=>intro h;rw[sTo,sTo,ih fun i hi=>h i (by omega),(h m (by omega)).1,(h m (by omega)).2]
  intro n
  induction n with
  | zero=>intro r x h h';obtain rfl:=wJ.1 h;simp[sTo,sRd]
  | succ n ih =>
    intro r0 x0 h h'
    obtain⟨r,a,rfl⟩:∃g y,r0=g++[y]:=by
     have hne:r0≠[]:=fun e=>by rw[e]at h;simp at h
     exact⟨r0.dropLast,r0.getLast hne,(wE hne).symm⟩
    obtain⟨x,b,rfl⟩:∃g y,x0=g++[y]:=by
     have hne:x0≠[]:=fun e=>by rw[e]at h';simp at h'
     exact⟨x0.dropLast,x0.getLast hne,(wE hne).symm⟩
    have hl:r.length=n:=by simpa using h
    have hl':x.length=n:=by simpa using h'
    rw[sTo,app _ _ _ _ _ (hl.trans hl'.symm)]
    have e1:sTo (r++[a]) (x++[b]) t n=sTo r x t n:=ext fun i hi=>⟨by unfold rdt;rw[wB,wB,wF (by omega)],by unfold nth;rw[wB,wB,wF (by omega)]⟩
    have e2:rdt (r++[a]) n=a:=by unfold rdt;rw[<-hl];simp
    have e3:nth (x++[b]) n=b:=by unfold nth;rw[<-hl'];simp
    rw[e1,ih hl hl',e2,e3]
    simp only[decide_eq_true_eq]
 exact key _ rfl hl
theorem qan {p:List Sp}{r:List Rd}(h:POk p r){fl:List Int}(hb:FB (net p r) fl)(hz:∀v,v≠0->v≠1->giv (netA p r) fl v (netA p r).length=0){t:Nat}(ht:t<p.length)(hk:(spt p t).kd=3) :
  sO (spt p t).nu (alo p r (rds p r fl) r.length)<=(spt p t).cp:=by
 have hnn:∀i,0<=nth (rds p r fl) i:=fun i=>by
  by_cases hi:i<(rds p r fl).length
  . have hm:nth (rds p r fl) i∈fl:=by
     unfold nth;rw[wB,wC hi]
     exact List.mem_of_mem_drop (wK hi)
    exact qlf hb _ hm
  . unfold nth;rw[wB,List.getElem?_eq_none (by omega)];exact wL _
 have h1:=qam h hnn ht hk (Nat.le_refl r.length)
 rw[qb8 r _ t (z09 hb.l)]at h1
 have h2:=z1r h hb ht hk (hz _ (by omega) (by omega))
 have h3:=(hb.b t (by show t<(netA p r).length;rw[zd3];omega)).2
 have h4:(art (net p r).a t).c=(spt p t).cp:=by rw[show(net p r).a=netA p r from rfl,zln ht]
 omega
def btw (b:List Al):List Al->List Al
 | []=>[]
 | x::l=>(match fnd b x.g x.o with|some i=>[⟨x.g,x.o,mi x.n (alt b i).n⟩]|none=>[])++btw b l
theorem qhu :∀{l:List Al},ND l->∀a∈l,0<=a.n
 | [],_,a,h=>by cases h
 | b::l,hn,a,h=>by
   rcases wG.1 h with rfl|h
   . exact hn.1
   . exact qhu hn.2.2 a h
theorem zji {l:List Al}{g o:Int}{i:Nat}(h:fnd l g o=some i):i<l.length/\sm g o (alt l i)=true:=by
 unfold fnd at h
 obtain⟨h1,h2,_⟩:=List.findIdx?_eq_some_iff_getElem.1 h
 refine⟨h1,?_⟩
 unfold alt;rw[wB,wC h1];exact h2
theorem zgr {l:List Al}{i:Nat}(h:i<l.length):alt l i∈l:=by
 unfold alt;rw[wB,wC h];exact wK h
theorem qjq {b:List Al}(hb:ND b)(o:Int):∀{a:List Al},ND a->sO o (btw b a)<=sO o a
 | [],_=>wL _
 | x::l,h=>by
   have ih:=qjq hb o h.2.2
   have hx:=h.1
   rw[btw,zvy,sO]
   cases hf:fnd b x.g x.o with
   | none=>simp only[sO];split<;>omega
   | some i =>
     have hi:=qhu hb _ (zgr (zji hf).1)
     have hm:=zuk x.n (alt b i).n
     simp only[sO];split<;>omega
def sP (o:Int)(a:List Al):List Al->Int
 | []=>0
 | y::l=>(if y.o=o/\a.any (sm y.g y.o)=true then y.n else 0)+sP o a l
theorem qg3 (o:Int)(a:List Al):∀{b:List Al},ND b->sP o a b<=sO o b
 | [],_=>wL _
 | y::l,h=>by
   have ih:=qg3 o a h.2.2
   have:=h.1
   rw[sP,sO]
   by_cases e:y.o=o
   . rw[if_pos e];split<;>omega
   . rw[if_neg e,if_neg (fun h=>e h.1)];omega
theorem z9q (o:Int):∀(b:List Al),sP o [] b=0
 | []=>rfl
 | y::l=>by rw[sP,z9q o l];simp
theorem ztw (a b:Al):sm a.g a.o b=sm b.g b.o a:=by
 unfold sm
 rw[show decide (b.g=a.g)=decide (a.g=b.g)from by simp[eq_comm],show decide (b.o=a.o)=decide (a.o=b.o)from by simp[eq_comm]]
theorem z0s (o:Int){x:Al}{a:List Al}:∀{b:List Al},(∀y∈b,sm x.g x.o y=false)->sP o (x::a) b=sP o a b
 | [],_=>rfl
 | y::l,h=>by
   rw[sP,sP,z0s o fun z hz=>h z (by simp[hz]),wH,<-ztw,h y (by simp),Bool.false_or]
theorem z0t (o:Int){x:Al}{a:List Al}(hx:∀y∈a,sm x.g x.o y=false):∀{b:List Al},ND b->sP o (x::a) b=sP o a b+(match fnd b x.g x.o with|some i=>if x.o=o then(alt b i).n else 0|none=>0)
 | [],_=>rfl
 | y::l,h=>by
   cases hs:sm x.g x.o y with
   | true =>
     obtain⟨e1,e2⟩:=znp.1 hs
     have hn:∀z∈l,sm x.g x.o z=false:=fun z hz=>by have:=h.2.1 z hz;rwa [e1,e2]at this
     have ha:a.any (sm y.g y.o)=false:=by
      rw[List.any_eq_false]
      intro z hz
      rw[e1,e2,hx z hz];decide
     rw[sP,sP,z0s o hn,wH,<-ztw,hs,Bool.true_or,ha,zjj,if_pos hs]
     have:(alt (y::l) 0).n=y.n:=rfl
     simp only[this,e2]
     simp
     by_cases e:x.o=o
     . rw[if_pos e];omega
     . rw[if_neg e];omega
   | false =>
     have hf:fnd (y::l) x.g x.o=(fnd l x.g x.o).map (· +1):=by rw[zjj,if_neg (show ¬sm x.g x.o y=true by rw[hs];decide)]
     rw[sP,sP,z0t o hx h.2.2,wH,<-ztw,hs,Bool.false_or,hf]
     cases fnd l x.g x.o with
     | none=>simp
     | some i =>
       have:alt (y::l) (i+1)=alt l i:=by simp[alt]
       simp only[Option.map_some,this]
       omega
theorem qjp {b:List Al}(hb:ND b)(o:Int):∀{a:List Al},ND a->sO o (btw b a)<=sP o a b
 | [],_=>by rw[z9q];exact wL _
 | x::l,h=>by
   have ih:=qjp hb o h.2.2
   rw[btw,zvy,z0t o h.2.1 hb]
   cases hf:fnd b x.g x.o with
   | none=>simp only[sO];omega
   | some i =>
     have hm:=zuk x.n (alt b i).n
     simp only[sO];split<;>omega
theorem qhc {p q:List Sp}{r s:List Rd}(hp:POk p r)(hq:POk q s){f g:List Int}(bf:FB (net p r) f)(bg:FB (net q s) g)
  (zf:∀v,v≠0->v≠1->giv (netA p r) f v (netA p r).length=0) (zg:∀v,v≠0->v≠1->giv (netA q s) g v (netA q s).length=0) {a b:List Al} (na:ND a) (nb:ND b) (o:Int) :
  sO o (btw b a)<=sO o a/\sO o (btw b a)<=sO o b:=⟨qjq nb o na,Int.le_trans (qjp nb o na) (qg3 o a nb)⟩
end Go.Fl
namespace Go.Proofs.S50
open Go Go.Ev Go.Proofs Go.Fl
variable {gl :Gl} {n:Nat}
abbrev i64 (n:Int):AV:=.int .i64 n
def ns (l:List Int):List AV:=l.map i64
theorem zab (l:List Int):(ns l).length=l.length:=by simp[ns]
theorem zb2 {l:List Int}{i:Nat}(h:i<l.length):(ns l)[i]? =some (i64 (nth l i)):=by simp[ns,nth,h]
theorem z9y (l:List Int)(x:Int):ns (l++[x])=ns l++[i64 x]:=by simp[ns]
theorem zh4 (l:List Int)(i:Nat)(x:Int):ns (l.set i x)=(ns l).set i (i64 x):=by simp[ns]
theorem z1s (n:Nat)(x:Int):List.replicate n (i64 x)=ns (List.replicate n x):=by simp[ns]
theorem zbp :∀(l:List Int),zdk (ns l)=true
 | []=>rfl
 | x::l=>by
   have:=zbp l
   rw[ns,List.map_cons,zdk,<-ns,this];rfl
abbrev aV (a:Ar):AV:=.agg [i64 a.f,i64 a.t,i64 a.c,i64 a.k]
def rs (l:List Ar):List AV:=l.map aV
theorem zah (l:List Ar):(rs l).length=l.length:=by simp[rs]
theorem zix {l:List Ar}{i:Nat}(h:i<l.length):(rs l)[i]? =some (.agg [i64 (art l i).f,i64 (art l i).t,i64 (art l i).c,i64 (art l i).k]):=by simp[rs,art,h]
theorem zv2 (l:List Ar)(a:Ar):rs (l++[a])=rs l++[.agg [i64 a.f,i64 a.t,i64 a.c,i64 a.k]]:=by simp[rs]
def us (l:List Nat):List AV:=l.map fun(i:Nat)=>i64 (i:Int)
theorem zao (l:List Nat):(us l).length=l.length:=by simp[us]
theorem zjs {l:List Nat}{i k:Nat}(h:l[i]? =some k):(us l)[i]? =some (i64 (k:Int)):=by simp[us,h]
theorem zkq (l:List Nat)(x:Nat):us (l++[x])=us l++[i64 (x:Int)]:=by simp[us]
theorem zjr (l:List Nat):(us l).isEmpty=l.isEmpty:=by cases l<;>rfl
def adj (a:List Ar):Nat->Nat->List Nat
 | 0,_=>[]
 | k+1,v=>if(art a k).f=v\/(art a k).t=v then adj a k v++[k]else adj a k v
theorem zvm {a:List Ar}{v i:Nat}:∀{k:Nat},i∈adj a k v↔i<k/\((art a i).f=v\/(art a i).t=v)
 | 0=>by simp[adj]
 | k+1=>by
   rw[adj]
   split
   . rename_i h
     rw[List.mem_append,zvm,List.mem_singleton]
     constructor
     . rintro (⟨h1,h2⟩|rfl)
       . exact⟨by omega,h2⟩
       . exact⟨by omega,h⟩
     . rintro ⟨h1,h2⟩
       by_cases e:i=k
       . exact .inr e
       . exact .inl ⟨by omega,h2⟩
   . rename_i h
     rw[zvm]
     constructor
     . rintro ⟨h1,h2⟩;exact⟨by omega,h2⟩
     . rintro ⟨h1,h2⟩
       by_cases e:i=k
       . rw[e]at h2;exact absurd h2 h
       . exact⟨by omega,h2⟩
theorem znb (a:List Ar)(v:Nat):∀k,(adj a k v).length<=k
 | 0=>by simp[adj]
 | k+1=>by
   have:=znb a v k
   rw[adj];split
   . rw[List.length_append,List.length_singleton];omega
   . omega
theorem znc (g:Nt):Adj g (adj g.a g.a.length):=fun v _ i=>by rw[zvm];rfl
def adjs (a:List Ar)(k N:Nat):List (List AV):=(List.range N).map fun v=>us (adj a k v)
theorem zbl (a:List Ar)(k N:Nat):(adjs a k N).length=N:=by simp[adjs]
theorem zfn {a:List Ar}{k N v:Nat}(h:v<N):(adjs a k N)[v]? =some (us (adj a k v)):=by simp[adjs,h]
abbrev yA3 :Sh:=.st [.sc,.sc,.sc]
abbrev yA4 :Sh:=.st [.sc,.sc,.sc,.sc]
abbrev yA5 :Sh:=.st [.sc,.sc,.sc,.sc,.sc]
abbrev yA8 :Sh:=.st [.sc,.sc,.sc,.sc,.sc,.st [.sc,.sc],.sc,.ar 16 .sc]
abbrev zA2 :AV:=.agg [.int .i64 0,.lst true .sc []]
abbrev zA5 :AV:=.agg [.int .i64 0,.int .i64 0,.lst true .sc [],.lst true .sc [],.lst true .sc []]
abbrev sNt :Sh:=.st [.sc,.sc]
abbrev sNw :Sh:=.st [.st [.sc,.sc],.sc,.sc,.sc]
end Go.Proofs.S50
