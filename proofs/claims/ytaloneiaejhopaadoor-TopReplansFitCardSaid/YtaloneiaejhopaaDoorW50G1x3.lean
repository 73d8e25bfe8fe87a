/-
  Networks with a flow (plain Lean): what arcs leave, what nodes give, how a flow changes. No condition; no program.
-/

set_option linter.all false
open List renaming getD_eq_getElem?_getD->wB,getElem?_eq_getElem->wC,getElem?_set->wD
namespace Go.Fl
structure Ar where
 f:Nat
 t:Nat
 c:Int
 k:Int
def nth (l:List Int)(i:Nat):Int:=l.getD i 0
def art (l:List Ar)(i:Nat):Ar:=l.getD i ⟨0,0,0,0⟩
theorem zcb {l:List Int}{i:Nat}(hi:i<l.length)(x:Int)(j:Nat):nth (l.set i x) j=if j=i then x else nth l j:=by
 unfold nth
 rw[wB,wD]
 by_cases h:j=i
 . subst h;simp[hi]
 . rw[if_neg (fun e=>h e.symm),if_neg h,wB]
structure Nt where
 n:Nat
 a:List Ar
structure NOk (g:Nt)(K:Int):Prop where
 f:∀i,i<g.a.length->(art g.a i).f<g.n
 t:∀i,i<g.a.length->(art g.a i).t<g.n
 ne:∀i,i<g.a.length->(art g.a i).f≠(art g.a i).t
 c:∀i,i<g.a.length->0<=(art g.a i).c
 k:∀i,i<g.a.length->0<=(art g.a i).k/\(art g.a i).k<=K
def inc (g:Nt)(u i:Nat):Prop:=i<g.a.length/\((art g.a i).f=u\/(art g.a i).t=u)
def oth (g:Nt)(u i:Nat):Nat:=if(art g.a i).f=u then(art g.a i).t else(art g.a i).f
def room (g:Nt)(fl:List Int)(u i:Nat):Int:=if(art g.a i).f=u then(art g.a i).c-nth fl i else nth fl i
def cst (g:Nt)(u i:Nat):Int:=if(art g.a i).f=u then(art g.a i).k else -(art g.a i).k
def red (g:Nt)(pr:List Int)(u i:Nat):Int:=cst g u i+nth pr u-nth pr (oth g u i)
theorem zi8 {g:Nt}{K:Int}(h:NOk g K){u i:Nat}(hi:inc g u i):oth g u i<g.n:=by
 unfold oth;split
 . exact h.t i hi.1
 . exact h.f i hi.1
theorem z9x {g:Nt}{K:Int}(h:NOk g K){u i:Nat}(hi:inc g u i):oth g u i≠u:=by
 unfold oth;split
 . rename_i e;rw[<-e];exact(h.ne i hi.1).symm
 . rename_i e;exact e
theorem qdo {g:Nt}{u i:Nat}(hi:inc g u i):inc g (oth g u i) i:=by
 refine⟨hi.1,?_⟩
 unfold oth;split
 . exact .inr rfl
 . exact .inl rfl
theorem z1q {g:Nt}{K:Int}(h:NOk g K){u i:Nat}(hi:inc g u i):oth g (oth g u i) i=u:=by
 rcases hi with ⟨h1,h2|h2⟩
 . have hn:=h.ne i h1
   unfold oth
   rw[if_pos h2,if_neg (by rw[h2]at hn ⊢;exact hn),h2]
 . have hn:=h.ne i h1
   have:¬(art g.a i).f=u:=fun e=>hn (e.trans h2.symm)
   unfold oth
   rw[if_neg this,if_pos rfl,h2]
theorem qen {g:Nt}{K:Int}(h:NOk g K){u i:Nat}(hi:inc g u i):cst g (oth g u i) i=-cst g u i:=by
 have hn:=h.ne i hi.1
 unfold cst oth
 by_cases e:(art g.a i).f=u
 . rw[if_pos e,if_pos e,if_neg hn]
 . rw[if_neg e,if_neg e,if_pos rfl,Int.neg_neg]
theorem qci {g:Nt}{K:Int}(h:NOk g K){pr:List Int}{u i:Nat}(hi:inc g u i):red g pr (oth g u i) i=-red g pr u i:=by
 unfold red
 rw[qen h hi,z1q h hi];omega
def giv (a:List Ar)(fl:List Int)(v:Nat):Nat->Int
 | 0=>0
 | i+1=>giv a fl v i+(if(art a i).f=v then nth fl i else 0)-(if(art a i).t=v then nth fl i else 0)
structure FB (g:Nt)(fl:List Int):Prop where
 l:fl.length=g.a.length
 b:∀i,i<g.a.length->0<=nth fl i/\nth fl i<=(art g.a i).c
def add (g:Nt)(fl:List Int)(u i:Nat)(x:Int):List Int:=fl.set i (nth fl i+if(art g.a i).f=u then x else -x)
theorem zo2 (g:Nt)(fl:List Int)(u i:Nat)(x:Int):(add g fl u i x).length=fl.length:=by simp[add]
theorem zp4 {g:Nt}{fl:List Int}{u i:Nat}(hi:i<fl.length)(x:Int)(j:Nat):nth (add g fl u i x) j=if j=i then nth fl i+(if(art g.a i).f=u then x else -x)else nth fl j:=by
 unfold add;rw[zcb hi]
theorem qj9 {g:Nt}{fl:List Int}{u i:Nat}(h:FB g fl)(hi:inc g u i){x:Int}(hx:0<=x/\x<=room g fl u i):FB g (add g fl u i x):=by
 have hl:=hi.1
 refine⟨by rw[zo2];exact h.l,fun j hj=> ?_⟩
 rw[zp4 (by rw[h.l];exact hl)]
 by_cases e:j=i
 . subst e
   rw[if_pos rfl]
   have:=h.b j hj
   unfold room at hx
   by_cases e2:(art g.a j).f=u
   . rw[if_pos e2]at hx ⊢;omega
   . rw[if_neg e2]at hx ⊢;omega
 . rw[if_neg e];exact h.b j hj
theorem z3t {a:List Ar}{fl:List Int}{i:Nat}(hi:i<fl.length)(x:Int)(v:Nat):∀m,giv a (fl.set i x) v m=giv a fl v m+if i<m then(if(art a i).f=v then x-nth fl i else 0)-(if(art a i).t=v then x-nth fl i else 0)else 0
 | 0=>by simp[giv]
 | m+1=>by
   rw[giv,giv,z3t hi x v m,zcb hi]
   by_cases e:m=i
   . subst e
     rw[if_neg (Nat.lt_irrefl _),if_pos (Nat.lt_succ_self _),if_pos rfl]
     split<;>split<;>omega
   . rw[if_neg e]
     by_cases h:i<m
     . rw[if_pos h,if_pos (show i<m+1 by omega)];omega
     . rw[if_neg h,if_neg (show ¬i<m+1 by omega)];omega
theorem qdy {g:Nt}{K:Int}(h:NOk g K){fl:List Int}{u i:Nat}(hl:fl.length=g.a.length)(hi:inc g u i)(x:Int)(v:Nat) :
  giv g.a (add g fl u i x) v g.a.length=giv g.a fl v g.a.length+(if v=u then x else 0)-(if v=oth g u i then x else 0):=by
 have hn:=h.ne i hi.1
 unfold add
 rw[z3t (by rw[hl];exact hi.1),if_pos hi.1]
 unfold oth
 rcases hi with ⟨h1,h2|h2⟩
 . rw[if_pos h2,if_pos h2]
   by_cases e1:v=u
   . subst e1
     rw[if_pos h2,if_neg (fun e=>hn (h2.trans e.symm)),if_pos rfl,if_neg (fun e=>hn (h2.trans e))];omega
   . rw[if_neg (fun e=>e1 (e.symm.trans h2)),if_neg e1]
     by_cases e2:v=(art g.a i).t
     . rw[if_pos e2.symm,if_pos e2];omega
     . rw[if_neg (fun e=>e2 e.symm),if_neg e2];omega
 . have h3:¬(art g.a i).f=u:=fun e=>hn (e.trans h2.symm)
   rw[if_neg h3,if_neg h3]
   by_cases e1:v=u
   . subst e1
     rw[if_neg h3,if_pos h2,if_pos rfl,if_neg (fun e=>h3 e.symm)];omega
   . rw[if_neg (show ¬(art g.a i).t=v from fun e=>e1 (e.symm.trans h2)),if_neg e1]
     by_cases e2:v=(art g.a i).f
     . rw[if_pos e2.symm,if_pos e2];omega
     . rw[if_neg (fun e=>e2 e.symm),if_neg e2];omega
def RN (g:Nt)(fl pr:List Int):Prop:=∀u i,inc g u i->0<room g fl u i->0<=red g pr u i
theorem z59 {g:Nt}{fl:List Int}{u i:Nat}(hl:i<fl.length)(x:Int){v j:Nat}(hj:j≠i):room g (add g fl u i x) v j=room g fl v j:=by
 unfold room;rw[zp4 hl,if_neg hj]
theorem qj8 {g:Nt}{K:Int}(h:NOk g K){fl pr:List Int}(hl:fl.length=g.a.length)(hr:RN g fl pr){u i:Nat}(hi:inc g u i)(hz:red g pr u i=0)(x:Int):RN g (add g fl u i x) pr:=by
 intro v j hv hp
 by_cases e:j=i
 . subst e
   have:v=u\/v=oth g u j:=by
    rcases hi with ⟨_,h2⟩
    rcases hv with ⟨_,h3⟩
    unfold oth
    by_cases e:(art g.a j).f=u
    . rw[if_pos e]
      rcases h3 with h3|h3
      . exact .inl (h3.symm.trans e)
      . exact .inr h3.symm
    . rw[if_neg e]
      rcases h3 with h3|h3
      . exact .inr h3.symm
      . exact .inl (h3.symm.trans (h2.resolve_left e))
   rcases this with rfl|rfl
   . omega
   . rw[qci h hi];omega
 . rw[z59 (by rw[hl];exact hi.1) x e]at hp
   exact hr v j hv hp
end Go.Fl
namespace Go.Fl
def dd (l:List Bool)(i:Nat):Bool:=l.getD i false
theorem zm4 {l:List Bool}{i:Nat}(hi:i<l.length)(x:Bool)(j:Nat):dd (l.set i x) j=if j=i then x else dd l j:=by
 unfold dd
 rw[wB,wD]
 by_cases h:j=i
 . subst h;simp[hi]
 . rw[if_neg (fun e=>h e.symm),if_neg h,wB]
def CL (g:Nt)(fl pr:List Int)(dead:List Bool)(v:Nat):Prop:=∀i,inc g v i->0<room g fl v i->red g pr v i=0->dd dead (oth g v i)=true
theorem CL.mono {g:Nt}{fl pr:List Int}{d d':List Bool}{v:Nat}(h:CL g fl pr d v)(hm:∀v,dd d v=true->dd d' v=true):CL g fl pr d' v:=fun i hi hp hz=>hm _ (h i hi hp hz)
def Adj (g:Nt)(adj:Nat->List Nat):Prop:=∀v,v<g.n->∀i,i∈adj v↔inc g v i
structure PI (g:Nt)(pr:List Int)(to:Nat)(adj:Nat->List Nat)(u:Nat)(M:Int)(fl0:List Int)(dead0:List Bool)(j:Nat)(fl:List Int)(dead:List Bool)(sent:Int):Prop where
 s:0<=sent/\sent<=M
 dl:dead.length=dead0.length
 dm:∀v,dd dead0 v=true->dd dead v=true
 du:dd dead u=true
 fb:FB g fl
 rn:RN g fl pr
 gv:∀v,giv g.a fl v g.a.length=giv g.a fl0 v g.a.length+(if v=u then sent else 0)-(if v=to then sent else 0)
 fx:∀i,i<g.a.length->dd dead0 (art g.a i).f=true\/dd dead0 (art g.a i).t=true->nth fl i=nth fl0 i
 z:sent=0->fl=fl0/\(∀v,dd dead v=true->dd dead0 v=true\/v=u\/(v≠to/\CL g fl0 pr dead v)) /\
  ∀j',j'<j->∀i,(adj u)[j']? =some i->0<room g fl0 u i->red g pr u i=0->dd dead (oth g u i)=true
structure PP (g:Nt)(pr:List Int)(to:Nat)(u:Nat)(M:Int)(fl0:List Int)(dead0:List Bool)(fl:List Int)(dead:List Bool)(r:Int):Prop where
 s:0<=r/\r<=M
 dl:dead.length=dead0.length
 dm:∀v,dd dead0 v=true->dd dead v=true
 fb:FB g fl
 rn:RN g fl pr
 gv:∀v,giv g.a fl v g.a.length=giv g.a fl0 v g.a.length+(if v=u then r else 0)-(if v=to then r else 0)
 fx:∀i,i<g.a.length->dd dead0 (art g.a i).f=true\/dd dead0 (art g.a i).t=true->nth fl i=nth fl0 i
 z:r=0->0<M->fl=fl0/\u≠to/\dd dead u=true/\∀v,dd dead v=true->dd dead0 v=true\/(v≠to/\CL g fl0 pr dead v)
section
variable {g :Nt} {K:Int} (hg:NOk g K) {pr:List Int} {to:Nat} {adj:Nat->List Nat} {u:Nat} {M:Int} {fl0:List Int} {dead0:List Bool}
theorem qhf (h:u=to\/M=0)(hM:0<=M)(hb:FB g fl0)(hr:RN g fl0 pr):PP g pr to u M fl0 dead0 fl0 dead0 M where
 s:=⟨hM,Int.le_refl _⟩
 dl:=rfl
 dm:=fun _ h=>h
 fb:=hb
 rn:=hr
 gv:=fun v=>by
  rcases h with rfl|rfl
  . split<;>omega
  . split<;>split<;>omega
 fx:=fun _ _ _=>rfl
 z:=fun h1 h2=>by omega
theorem pi_0 (hM:0<=M)(hu:u<dead0.length)(hb:FB g fl0)(hr:RN g fl0 pr):PI g pr to adj u M fl0 dead0 0 fl0 (dead0.set u true) 0 where
 s:=⟨Int.le_refl _,hM⟩
 dl:=by simp
 dm:=fun v h=>by rw[zm4 hu];split<;>simp_all
 du:=by rw[zm4 hu,if_pos rfl]
 fb:=hb
 rn:=hr
 gv:=fun v=>by split<;>split<;>omega
 fx:=fun _ _ _=>rfl
 z:=fun _=>⟨rfl,fun v h=>by
  rw[zm4 hu]at h
  by_cases e:v=u
  . exact .inr (.inl e)
  . rw[if_neg e]at h;exact .inl h,fun j' h=>absurd h (Nat.not_lt_zero j')⟩
theorem z1j {j:Nat}{fl:List Int}{dead:List Bool}{sent:Int}(h:PI g pr to adj u M fl0 dead0 j fl dead sent){i:Nat}(hj:(adj u)[j]? =some i)
  (hs:room g fl u i<=0\/dd dead (oth g u i)=true\/red g pr u i≠0):PI g pr to adj u M fl0 dead0 (j+1) fl dead sent where
 s:=h.s
 dl:=h.dl
 dm:=h.dm
 du:=h.du
 fb:=h.fb
 rn:=h.rn
 gv:=h.gv
 fx:=h.fx
 z:=fun e=>by
  obtain⟨z1,z2,z3⟩:=h.z e
  refine⟨z1,z2,fun j' hj' i' hi' hp hz=> ?_⟩
  by_cases e2:j'=j
  . subst e2
    rw[hj]at hi'
    obtain rfl:=Option.some.inj hi'
    rw[z1]at hs
    rcases hs with hs|hs|hs
    . omega
    . exact hs
    . exact absurd hz hs
  . exact z3 j' (by omega) i' hi' hp hz
include hg
theorem qcq (hu0:dd dead0 u=false){j:Nat}{fl:List Int}{dead:List Bool}{sent:Int}(h:PI g pr to adj u M fl0 dead0 j fl dead sent){i:Nat}(hj:(adj u)[j]? =some i)(hi:inc g u i)
  (hx:dd dead (oth g u i)=false) (hz:red g pr u i=0) {m:Int} (hm:m<=room g fl u i/\m<=M-sent) (hm0:0<m) {fl':List Int} {dead':List Bool} {r:Int} (hp:PP g pr to (oth g u i) m fl dead fl' dead' r) :
  PI g pr to adj u M fl0 dead0 (j+1) (add g fl' u i r) dead' (sent+r):=by
 have hlen:=hp.fb.l
 have hil:i<fl'.length:=by rw[hlen];exact hi.1
 have hui:nth fl' i=nth fl i:=hp.fx i hi.1 (by rcases hi.2 with e|e<;>rw[e];exact .inl h.du;exact .inr h.du)
 have hroom:room g fl' u i=room g fl u i:=by unfold room;rw[hui]
 have hs:=h.s
 have hps:=hp.s
 have ho0:dd dead0 (oth g u i)=false:=by
  cases hd:dd dead0 (oth g u i)with
  | false=>rfl
  | true=>rw[h.dm _ hd]at hx;cases hx
 refine⟨by omega,by rw[hp.dl];exact h.dl,fun v hv=>hp.dm v (h.dm v hv),hp.dm u h.du,qj9 hp.fb hi (by rw[hroom];omega),qj8 hg hlen hp.rn hi hz r,fun v=> ?_,fun k hk hd=> ?_,fun e=> ?_⟩
 . rw[qdy hg hlen hi,hp.gv,h.gv]
   generalize giv g.a fl0 v g.a.length=a
   split<;>split<;>split<;>omega
 . have hki:k≠i:=by
    rintro rfl
    have:(art g.a k).f=u/\(art g.a k).t=oth g u k\/(art g.a k).t=u/\(art g.a k).f=oth g u k:=by
     unfold oth
     by_cases e:(art g.a k).f=u
     . rw[if_pos e];exact .inl ⟨e,rfl⟩
     . rw[if_neg e];exact .inr ⟨hi.2.resolve_left e,rfl⟩
    rcases this with ⟨e1,e2⟩|⟨e1,e2⟩
    . rw[e1,e2,hu0,ho0]at hd;rcases hd with hd|hd<;>cases hd
    . rw[e1,e2,hu0,ho0]at hd;rcases hd with hd|hd<;>cases hd
   rw[zp4 hil,if_neg hki,hp.fx k hk (hd.imp (h.dm _) (h.dm _)),h.fx k hk hd]
 . have e1:sent=0:=by omega
   have e2:r=0:=by omega
   obtain⟨z1,z2,z3⟩:=h.z e1
   obtain⟨y1,y2,y3,y4⟩:=hp.z e2 hm0
   have e3:add g fl' u i r=fl0:=by
    rw[e2]
    refine List.ext_getElem (by rw[zo2,y1,z1]) fun k h1 h2=> ?_
    have:nth (add g fl' u i 0) k=nth fl' k:=by
     rw[zp4 hil]
     split
     . rename_i e;rw[e];split<;>omega
     . rfl
    unfold nth at this
    rw[wB,wB,wC h1,wC (by rw[y1,z1];exact h2)]at this
    have h3:fl'[k]'(by rw[y1,z1];exact h2)=fl0[k]:=by congr 1;rw[y1,z1]
    rw[<-h3];exact this
   have e4:oth g u i≠to\/True:=.inr trivial
   refine⟨e3,fun v hv=> ?_,fun j' hj' i' hi' hp' hz'=> ?_⟩
   . rcases y4 v hv with h5|h5
     . rcases z2 v h5 with h6|h6|h6
       . exact .inl h6
       . exact .inr (.inl h6)
       . exact .inr (.inr ⟨h6.1,h6.2.mono hp.dm⟩)
     . rw[z1]at h5;exact .inr (.inr h5)
   . by_cases e5:j'=j
     . subst e5
       rw[hj]at hi'
       obtain rfl:=Option.some.inj hi'
       exact y3
     . exact hp.dm _ (z3 j' (by omega) i' hi' hp' hz')
omit hg in
theorem qhh (ha:Adj g adj)(hun:u<g.n)(hto:u≠to)(hu0:dd dead0 u=false)(hu:u<dead0.length){j:Nat}{fl:List Int}{dead:List Bool}{sent:Int}(h:PI g pr to adj u M fl0 dead0 j fl dead sent)(hj:sent<M->(adj u).length<=j) :
  PP g pr to u M fl0 dead0 fl (dead.set u (decide (sent<M))) sent:=by
 have hul:u<dead.length:=by rw[h.dl];exact hu
 refine⟨h.s,by simp;exact h.dl,fun v hv=> ?_,h.fb,h.rn,h.gv,h.fx,fun e hM=> ?_⟩
 . rw[zm4 hul]
   by_cases e:v=u
   . rw[e,hu0]at hv;cases hv
   . rw[if_neg e];exact h.dm v hv
 . obtain⟨z1,z2,z3⟩:=h.z e
   have hlt:sent<M:=by omega
   have hsame:∀v,dd (dead.set u (decide (sent<M))) v=dd dead v:=fun v=>by
    rw[zm4 hul,decide_eq_true hlt]
    split
    . rename_i e2;rw[e2,h.du]
    . rfl
   refine⟨z1,hto,by rw[hsame];exact h.du,fun v hv=> ?_⟩
   rw[hsame]at hv
   rcases z2 v hv with h1|h1|h1
   . exact .inl h1
   . refine .inr ⟨by rw[h1];exact hto,fun i hi hp hz=> ?_⟩
     rw[h1]at hi hp hz ⊢
     rw[hsame]
     obtain⟨j',hj',e3⟩:=List.getElem_of_mem ((ha u hun i).2 hi)
     exact z3 j' (by have:=hj hlt;omega) i (by rw[wC hj',e3]) hp hz
   . exact .inr ⟨h1.1,h1.2.mono fun w hw=>by rw[hsame];exact hw⟩
end
end Go.Fl
