/-
  Least distances in a network with a flow (plain Lean): what the search keeps, and what it has found out in the end. No condition; no program.
-/
import Derived.Test.YtaloneiaejhopaaDoorW50G1x3
set_option linter.all false
open Int renaming le_refl->wB,le_trans->wC
open List renaming mem_cons_of_mem->wD,mem_cons->wE,mem_singleton->wF,getD_eq_getElem?_getD->wG,getElem?_replicate->wH,mem_cons_self->wJ,length_cons->wK
namespace Go.Fl
inductive Pa (g:Nt)(fl pr:List Int)(s:Nat)(out:List Int):Nat->List Nat->Int->Prop
 | nil:nth out s<=0->Pa g fl pr s out s [s] 0
 | cons {u:Nat} {P:List Nat} {c:Int} {i:Nat}:Pa g fl pr s out u P c->inc g u i->0<room g fl u i->oth g u i∉P->nth out (oth g u i)<=c+red g pr u i->Pa g fl pr s out (oth g u i) (oth g u i::P) (c+red g pr u i)
section
variable {g :Nt} {K:Int} {fl pr:List Int} {s to:Nat} {out:List Int} {adj:Nat->List Nat}
theorem Pa.mono {out':List Int}(hm:∀v,nth out' v<=nth out v){v:Nat}{P:List Nat}{c:Int}(h:Pa g fl pr s out v P c):Pa g fl pr s out' v P c:=by
 induction h with
 | nil h=>exact .nil (wC (hm _) h)
 | cons _ hi hp hn ho ih=>exact .cons ih hi hp hn (wC (hm _) ho)
theorem Pa.le (hr:RN g fl pr){v:Nat}{P:List Nat}{c:Int}(h:Pa g fl pr s out v P c):0<=c/\(∀w∈P,nth out w<=c)/\v∈P/\s∈P:=by
 induction h with
 | nil h=>exact⟨wB _,fun w hw=>by rw[wF]at hw;rw[hw];exact h,by simp,by simp⟩
 | cons _ hi hp hn ho ih =>
   have:=hr _ _ hi hp
   obtain⟨h1,h2,h3,h4⟩:=ih
   refine⟨by omega,fun w hw=> ?_,by simp,by simp[h4]⟩
   rcases wE.1 hw with rfl|hw
   . exact ho
   . have:=h2 w hw;omega
theorem Pa.nd (hg:NOk g K)(hs:s<g.n){v:Nat}{P:List Nat}{c:Int}(h:Pa g fl pr s out v P c):P.Nodup/\(∀w∈P,w<g.n)/\P≠[]:=by
 induction h with
 | nil _=>exact⟨by simp,fun w hw=>by rw[wF]at hw;rw[hw];exact hs,by simp⟩
 | cons _ hi _ hn _ ih =>
   refine⟨List.nodup_cons.2 ⟨hn,ih.1⟩,fun w hw=> ?_,by simp⟩
   rcases wE.1 hw with rfl|hw
   . exact zi8 hg hi
   . exact ih.2.1 w hw
theorem z95 :∀{n:Nat} {P:List Nat},P.Nodup->(∀w∈P,w<n)->P.length<=n
 | 0,P,_,hw=>by
   cases P with
   | nil=>simp
   | cons w P=>have:=hw w (by simp);omega
 | n+1,P,hP,hw=>by
   have h1:(P.erase n).Nodup:=hP.erase n
   have h2:∀w∈P.erase n,w<n:=fun w h=>by
    have h3:=(List.Nodup.mem_erase_iff hP).1 h
    have:=hw w h3.2;have:=h3.1;omega
   have:=z95 h1 h2
   rw[List.length_erase]at this
   split at this<;>omega
theorem Pa.cost (hg:NOk g K){v:Nat}{P:List Nat}{c:Int}(h:Pa g fl pr s out v P c):c<=((P.length:Int)-1)*K+nth pr s-nth pr v:=by
 induction h with
 | nil _=>simp
 | @cons u P c i hp hi _ _ _ ih =>
   have hk:=hg.k i hi.1
   have h1:cst g u i<=K:=by unfold cst;split<;>omega
   have e:((P.length+1:Nat):Int)-1=((P.length:Int)-1)+1:=by omega
   rw[wK,e,Int.add_mul,Int.one_mul]
   unfold red
   generalize ((P.length:Int)-1)*K=z at *
   omega
structure PB (g:Nt)(K:Int)(pr:List Int)(s to:Nat):Prop where
 l:pr.length=g.n
 s:nth pr s=0
 b:∀k,k<g.n->0<=nth pr k/\nth pr k<=nth pr to
 t:nth pr to<=(g.n:Int)*K
theorem Pa.bd (hg:NOk g K)(hK:0<=K)(hs:s<g.n)(hp:PB g K pr s to){v:Nat}{P:List Nat}{c:Int}(h:Pa g fl pr s out v P c):c+nth pr v<=(g.n:Int)*K:=by
 obtain⟨h1,h2,h3⟩:=h.nd hg hs
 have h4:=z95 h1 h2
 have h5:=h.cost hg
 rw[hp.s]at h5
 have h6:((P.length:Int)-1)*K<=(g.n:Int)*K:=Int.mul_le_mul_of_nonneg_right (by omega) hK
 omega
def far :Int:=4611686018427387904
structure DI (g:Nt)(fl pr:List Int)(s:Nat)(out:List Int)(L:List (Int×Nat)):Prop where
 l:out.length=g.n
 sz:nth out s=0
 p:∀v,v<g.n->nth out v=far\/∃P,Pa g fl pr s out v P (nth out v)
 h:∀e∈L,e.2<g.n/\nth out e.2<=e.1/\e.1<far
 r:∀v,v<g.n->nth out v<far->(nth out v,v)∈L\/∀i,inc g v i->0<room g fl v i->nth out (oth g v i)<=nth out v+red g pr v i
structure DJ (g:Nt)(fl pr:List Int)(s:Nat)(adj:Nat->List Nat)(u j:Nat)(out:List Int)(L:List (Int×Nat)):Prop where
 l:out.length=g.n
 sz:nth out s=0
 p:∀v,v<g.n->nth out v=far\/∃P,Pa g fl pr s out v P (nth out v)
 h:∀e∈L,e.2<g.n/\nth out e.2<=e.1/\e.1<far
 r:∀v,v<g.n->v≠u->nth out v<far->(nth out v,v)∈L\/∀i,inc g v i->0<room g fl v i->nth out (oth g v i)<=nth out v+red g pr v i
 uf:nth out u<far
 j:∀j',j'<j->∀i,(adj u)[j']? =some i->0<room g fl u i->nth out (oth g u i)<=nth out u+red g pr u i
theorem di_0 (hs:s<g.n):DI g fl pr s ((List.replicate g.n far).set s 0) [(0,s)]:=by
 have hl:s<(List.replicate g.n far).length:=by simp[hs]
 have hn:∀v,v<g.n->v≠s->nth ((List.replicate g.n far).set s 0) v=far:=fun v hv hne=>by
  rw[zcb hl,if_neg hne]
  unfold nth
  rw[wG,wH,if_pos hv];rfl
 have h0:nth ((List.replicate g.n far).set s 0) s=0:=by rw[zcb hl,if_pos rfl]
 refine⟨by simp,h0,fun v hv=> ?_,fun e he=> ?_,fun v hv hf=> ?_⟩
 . by_cases e:v=s
   . subst e;rw[h0];exact .inr ⟨_,.nil (by rw[h0];exact wB _)⟩
   . exact .inl (hn v hv e)
 . rw[wF]at he
   subst he
   exact⟨hs,by rw[h0];exact wB _,by show(0:Int)<far;unfold far;decide⟩
 . by_cases e:v=s
   . subst e;rw[h0];exact .inl (by simp)
   . rw[hn v hv e]at hf;omega
theorem zv7 {L L1:List (Int×Nat)}{e x:Int×Nat}(h:L.Perm (e::L1))(hx:x∈L)(hne:x≠e):x∈L1:=by
 rcases wE.1 (h.mem_iff.1 hx)with h1|h1
 . exact absurd h1 hne
 . exact h1
theorem z8u {L L1:List (Int×Nat)}(h:DI g fl pr s out L){d:Int}{u:Nat}(hp:L.Perm ((d,u)::L1))(hd:nth out u<d):DI g fl pr s out L1 :=
 ⟨h.l,h.sz,h.p,fun e he=>h.h e (hp.mem_iff.2 (wD _ he)),fun v hv hf=>by
   rcases h.r v hv hf with h1|h1
   . refine .inl (zv7 hp h1 fun e=> ?_)
     obtain⟨e1,e2⟩:=Prod.mk.inj e
     rw[e2]at e1;omega
   . exact .inr h1⟩
theorem qef {L L1:List (Int×Nat)}(h:DI g fl pr s out L){d:Int}{u:Nat}(hp:L.Perm ((d,u)::L1))(hd:¬nth out u<d):nth out u=d/\DJ g fl pr s adj u 0 out L1:=by
 have h1:=h.h (d,u) (hp.mem_iff.2 wJ)
 have e:nth out u=d:=by have:=h1.2.1;simp only at this;omega
 refine⟨e,h.l,h.sz,h.p,fun e he=>h.h e (hp.mem_iff.2 (wD _ he)),fun v hv hne hf=> ?_,by rw[e];exact h1.2.2,fun j' hj=>absurd hj (Nat.not_lt_zero j')⟩
 rcases h.r v hv hf with h2|h2
 . exact .inl (zv7 hp h2 fun e=>hne (Prod.mk.inj e).2)
 . exact .inr h2
theorem z4n {u j:Nat}{L:List (Int×Nat)}(h:DJ g fl pr s adj u j out L){i:Nat}(hj:(adj u)[j]? =some i)(hs:room g fl u i<=0\/nth out (oth g u i)<=nth out u+red g pr u i):DJ g fl pr s adj u (j+1) out L :=
 ⟨h.l,h.sz,h.p,h.h,h.r,h.uf,fun j' hj' i' hi' hp=>by
   by_cases e:j'=j
   . subst e
     rw[hj]at hi'
     obtain rfl:=Option.some.inj hi'
     rcases hs with hs|hs
     . omega
     . exact hs
   . exact h.j j' (by omega) i' hi' hp⟩
theorem z4o (hg:NOk g K)(hr:RN g fl pr)(hpb:PB g K pr s to)(hK:0<=K)(hB:(g.n:Int)*K<far)(hsn:s<g.n){u j:Nat}(hun:u<g.n){L L':List (Int×Nat)}(h:DJ g fl pr s adj u j out L){i:Nat}(hj:(adj u)[j]? =some i)(hi:inc g u i)(hp:0<room g fl u i)
  (hn:nth out u+red g pr u i<nth out (oth g u i)) (hL:L'.Perm ((nth out u+red g pr u i,oth g u i)::L)) :
  DJ g fl pr s adj u (j+1) (out.set (oth g u i) (nth out u+red g pr u i)) L'/\0<=nth out u+red g pr u i/\nth out u+red g pr u i<=(g.n:Int)*K:=by
 have hxn:=zi8 hg hi
 have hxu:=z9x hg hi
 have hrd:=hr u i hi hp
 have hxl:oth g u i<out.length:=by rw[h.l];exact hxn
 obtain⟨P,hP⟩:∃P,Pa g fl pr s out u P (nth out u):=by
  rcases h.p u hun with e|e
  . have:=h.uf;omega
  . exact e
 have hle:=hP.le hr
 have hgen:∀n,n=nth out u+red g pr u i->n<nth out (oth g u i)->DJ g fl pr s adj u (j+1) (out.set (oth g u i) n) L'/\0<=n/\n<=(g.n:Int)*K:=by
  intro n hne hn
  have hnx:oth g u i∉P:=fun hm=>by have:=hle.2.1 _ hm;omega
  have hset:∀v,nth (out.set (oth g u i) n) v=if v=oth g u i then n else nth out v:=fun v=>zcb hxl n v
  have hmono:∀v,nth (out.set (oth g u i) n) v<=nth out v:=fun v=>by
   rw[hset];split
   . rename_i e;rw[e];omega
   . exact wB _
  have hou:nth (out.set (oth g u i) n) u=nth out u:=by rw[hset,if_neg (fun e=>hxu e.symm)]
  have hPx:Pa g fl pr s (out.set (oth g u i) n) (oth g u i) (oth g u i::P) n:=by
   rw[hne]
   refine .cons ?_ hi hp hnx ?_
   . rw[<-hne];exact hP.mono hmono
   . rw[<-hne,hset,if_pos rfl];exact wB _
  have hbd:=hPx.bd hg hK hsn hpb
  have hpx:=(hpb.b _ hxn).1
  have h0:=(hPx.le hr).1
  have hxs:oth g u i≠s:=fun e=>by rw[e,h.sz]at hn;omega
  refine⟨⟨by simp;exact h.l,?_,fun v hv=> ?_,fun e he=> ?_,fun v hv hne' hf=> ?_,by rw[hou];exact h.uf,fun j' hj' i' hi' hp'=> ?_⟩,h0,by omega⟩
  . rw[hset,if_neg (fun e=>hxs e.symm)];exact h.sz
  . by_cases e:v=oth g u i
    . rw[hset,if_pos e,e];exact .inr ⟨_,hPx⟩
    . rw[hset,if_neg e]
      rcases h.p v hv with h1|⟨P',h1⟩
      . exact .inl h1
      . exact .inr ⟨P',h1.mono hmono⟩
  . rcases wE.1 (hL.mem_iff.1 he)with rfl|h1
    . rw[<-hne]
      refine⟨hxn,?_,by show n<far;omega⟩
      show nth (out.set (oth g u i) n) (oth g u i)<=n
      rw[hset,if_pos rfl];exact wB _
    . obtain⟨g1,g2,g3⟩:=h.h e h1
      exact⟨g1,wC (hmono _) g2,g3⟩
  . by_cases e:v=oth g u i
    . left
      rw[hset,if_pos e,e,hL.mem_iff,hne];exact wJ
    . rw[hset,if_neg e]at hf ⊢
      rcases h.r v hv hne' hf with h1|h1
      . left;rw[hL.mem_iff];exact wD _ h1
      . exact .inr fun i' hi' hp'=>wC (hmono _) (h1 i' hi' hp')
  . by_cases e:j'=j
    . subst e
      rw[hj]at hi'
      obtain rfl:=Option.some.inj hi'
      rw[hou,hset,if_pos rfl];omega
    . rw[hou];exact wC (hmono _) (h.j j' (by omega) i' hi' hp')
 exact hgen _ rfl hn
theorem qag (ha:Adj g adj){u j:Nat}(hun:u<g.n){L:List (Int×Nat)}(h:DJ g fl pr s adj u j out L)(hj:(adj u).length<=j):DI g fl pr s out L :=
 ⟨h.l,h.sz,h.p,h.h,fun v hv hf=>by
   by_cases e:v=u
   . subst e
     refine .inr fun i hi hp=> ?_
     obtain⟨j',hj',e3⟩:=List.getElem_of_mem ((ha v hv i).2 hi)
     exact h.j j' (by omega) i (by rw[List.getElem?_eq_getElem hj',e3]) hp
   . exact h.r v hv e hf⟩
def msr (B:Int):List Int->Nat
 | []=>0
 | x::l=>(if x<=B then x else B+1).toNat+msr B l
theorem z1x {B:Int}:∀{l:List Int} {i:Nat} {n:Int},i<l.length->0<=n->n<=B->n<nth l i->msr B (l.set i n)<msr B l
 | [],i,_,h,_,_,_=>by simp at h
 | x::l,0,n,_,h0,h1,h2=>by
   have h3:n<x:=h2
   rw[List.set_cons_zero,msr,msr,if_pos h1];split<;>omega
 | x::l,i+1,n,h,h0,h1,h2=>by
   rw[List.set_cons_succ,msr,msr]
   have:=z1x (B:=B) (l:=l) (i:=i) (n:=n) (by simpa using h) h0 h1 h2
   omega
theorem z90 {B:Int}(hB:0<=B):∀(l:List Int),msr B l<=l.length*(B+1).toNat
 | []=>by simp[msr]
 | x::l=>by
   have:=z90 hB l
   rw[msr,wK,Nat.add_mul,Nat.one_mul]
   split<;>omega
end
end Go.Fl
namespace Go.Fl
def mi (a b:Int):Int:=if b<a then b else a
theorem zuk (a b:Int):mi a b<=a/\mi a b<=b/\(mi a b=a\/mi a b=b):=by unfold mi;split<;>omega
inductive Z0 (g:Nt)(fl pr:List Int)(s:Nat):Nat->Prop
 | nil:Z0 g fl pr s s
 | cons {u i:Nat}:Z0 g fl pr s u->inc g u i->0<room g fl u i->red g pr u i=0->Z0 g fl pr s (oth g u i)
section
variable {g :Nt} {K:Int} {fl pr:List Int} {s to:Nat} {out:List Int}
theorem qah (h:DI g fl pr s out []){v:Nat}(hv:v<g.n)(hf:nth out v<far){i:Nat}(hi:inc g v i)(hp:0<room g fl v i):nth out (oth g v i)<=nth out v+red g pr v i:=by
 rcases h.r v hv hf with h1|h1
 . cases h1
 . exact h1 i hi hp
theorem z4r (h:DI g fl pr s out [])(hr:RN g fl pr){v:Nat}(hv:v<g.n):0<=nth out v:=by
 rcases h.p v hv with e|⟨P,hP⟩
 . rw[e];unfold far;decide
 . exact(hP.le hr).1
variable (hg :NOk g K) (hK:0<=K) (hB:(g.n:Int)*K<1152921504606846976) (hs:s<g.n) (hto:to<g.n) (hr:RN g fl pr) (hpb:PB g K pr s to) (h:DI g fl pr s out [])
include hg hK hB hs hr hpb h
theorem qai {v:Nat}(hv:v<g.n):nth out v=far\/nth out v+nth pr v<=(g.n:Int)*K:=by
 rcases h.p v hv with e|⟨P,hP⟩
 . exact .inl e
 . exact .inr (hP.bd hg hK hs hpb)
include hto
theorem z_of {pr':List Int}(hpr:∀k,k<g.n->nth pr' k=nth pr k+mi (nth out k) (nth out to))(hD:nth out to<far){v:Nat}{P:List Nat}{c:Int}(hP:Pa g fl pr s out v P c) :
  c<=nth out v->c<=nth out to->Z0 g fl pr' s v:=by
 induction hP with
 | nil _=>exact fun _ _=>.nil
 | @cons u P c i hP hi hp hn ho ih =>
   intro h1 h2
   have hle:=hP.le hr
   have hrd:=hr u i hi hp
   have hu:u<g.n:=(hP.nd hg hs).2.1 u hle.2.2.1
   have huc:=hle.2.1 u hle.2.2.1
   have hlx:=qah h hu (by omega) hi hp
   have e:c=nth out u:=by omega
   have hz:=ih (by omega) (by omega)
   refine .cons hz hi hp ?_
   have e1:=hpr u hu
   have e2:=hpr _ (zi8 hg hi)
   have e3:mi (nth out u) (nth out to)=nth out u:=by unfold mi;rw[if_neg (by omega)]
   have e4:mi (nth out (oth g u i)) (nth out to)=nth out (oth g u i):=by unfold mi;rw[if_neg (by omega)]
   rw[e3]at e1
   rw[e4]at e2
   unfold red at *
   omega
theorem qco (hD:nth out to<far){pr':List Int}(hl:pr'.length=g.n)(hpr:∀k,k<g.n->nth pr' k=nth pr k+mi (nth out k) (nth out to)) :
  RN g fl pr'/\PB g K pr' s to/\Z0 g fl pr' s to:=by
 refine⟨fun u i hi hp=> ?_,⟨hl,?_,fun k hk=> ?_,?_⟩,?_⟩
 . have hu:u<g.n:=by
    have h2:=zi8 hg (qdo hi)
    rwa [z1q hg hi]at h2
   have hx:=zi8 hg hi
   have e1:=hpr u hu
   have e2:=hpr _ hx
   have h0:=hr u i hi hp
   have hxn:=z4r h hr hx
   have m1:=zuk (nth out u) (nth out to)
   have m2:=zuk (nth out (oth g u i)) (nth out to)
   by_cases hf:nth out u<far
   . have hlx:=qah h hu hf hi hp
     unfold red at *
     omega
   . have:nth out u=far:=by
      rcases h.p u hu with e|⟨P,hP⟩
      . exact e
      . have:=hP.bd hg hK hs hpb
        have h3:=(hpb.b u hu).1
        unfold far at hf;omega
     have e3:mi (nth out u) (nth out to)=nth out to:=by unfold mi;rw[if_pos (by omega)]
     unfold red at *
     omega
 . have:=hpr s hs
   have h0:=h.sz
   have h1:=hpb.s
   have h2:=z4r h hr hto
   have m1:mi 0 (nth out to)=0:=by unfold mi;rw[if_neg (by omega)]
   rw[h0,m1]at this;omega
 . have e1:=hpr k hk
   have e2:=hpr to hto
   have h1:=hpb.b k hk
   have h2:=z4r h hr hk
   have h3:=z4r h hr hto
   have m1:=zuk (nth out k) (nth out to)
   have m2:mi (nth out to) (nth out to)=nth out to:=by unfold mi;split<;>rfl
   rw[m2]at e2
   omega
 . have e2:=hpr to hto
   have m2:mi (nth out to) (nth out to)=nth out to:=by unfold mi;split<;>rfl
   rw[m2]at e2
   rcases qai hg hK hB hs hr hpb h hto with e|e
   . omega
   . omega
 . rcases h.p to hto with e|⟨P,hP⟩
   . omega
   . exact z_of hg hK hB hs hto hr hpb h hpr hD hP (wB _) (wB _)
omit hg hK hB hs hto hr hpb h
theorem qhe {M r:Int}{fl0:List Int}{dead0 dead:List Bool}(hp:PP g pr to s M fl0 dead0 fl dead r)(hM:0<M)(hd:∀v,dd dead0 v=false)(hz:Z0 g fl0 pr s to):0<r:=by
 have hs:=hp.s
 by_cases e:r=0
 . exfalso
   obtain⟨z1,z2,z3,z4⟩:=hp.z e hM
   have h1:∀v,Z0 g fl0 pr s v->dd dead v=true:=fun v hv=>by
    induction hv with
    | nil=>exact z3
    | @cons u i hu hi hp hz0 ih =>
      rcases z4 u ih with h2|h2
      . rw[hd]at h2;cases h2
      . exact h2.2 i hi hp hz0
   rcases z4 to (h1 to hz)with h2|h2
   . rw[hd]at h2;cases h2
   . exact h2.1 rfl
 . omega
end
structure SI (g:Nt)(K:Int)(s to:Nat)(A:Int)(fl pr:List Int)(sent:Int):Prop where
 fb:FB g fl
 rn:RN g fl pr
 pb:PB g K pr s to
 sa:0<=sent/\sent<=A
 gv:∀v,giv g.a fl v g.a.length=(if v=s then sent else 0)-(if v=to then sent else 0)
theorem zgi {n:Nat}(v:Nat):nth (List.replicate n 0) v=0:=by
 unfold nth
 rw[wG,wH]
 split<;>rfl
theorem qiy (a:List Ar)(n v:Nat):∀m,giv a (List.replicate n 0) v m=0
 | 0=>rfl
 | m+1=>by rw[giv,qiy a n v m,zgi];split<;>split<;>rfl
theorem si_0 {g:Nt}{K:Int}(hg:NOk g K)(hK:0<=K){s to:Nat}{A:Int}(hA:0<=A):SI g K s to A (List.replicate g.a.length 0) (List.replicate g.n 0) 0 where
 fb:=⟨by simp,fun i hi=>by rw[zgi];exact⟨wB _,hg.c i hi⟩⟩
 rn:=fun u i hi hp=>by
  have hk:=hg.k i hi.1
  unfold room at hp
  rw[zgi]at hp
  unfold red cst
  rw[zgi,zgi]
  by_cases e:(art g.a i).f=u
  . rw[if_pos e];omega
  . rw[if_neg e]at hp;omega
 pb:=⟨by simp,zgi _,fun k hk=>by rw[zgi,zgi];omega,by rw[zgi];exact Int.mul_nonneg (by omega) hK⟩
 sa:=⟨wB _,hA⟩
 gv:=fun v=>by rw[qiy];split<;>split<;>rfl
theorem SI.price {g:Nt}{K:Int}{s to:Nat}{A:Int}{fl pr pr':List Int}{sent:Int}(h:SI g K s to A fl pr sent)(hr:RN g fl pr')(hp:PB g K pr' s to):SI g K s to A fl pr' sent:=⟨h.fb,hr,hp,h.sa,h.gv⟩
theorem SI.push {g:Nt}{K:Int}{s to:Nat}{A:Int}{fl pr:List Int}{sent:Int}(h:SI g K s to A fl pr sent){dead0 dead:List Bool}{fl':List Int}{r:Int}(hp:PP g pr to s (A-sent) fl dead0 fl' dead r):SI g K s to A fl' pr (sent+r) where
 fb:=hp.fb
 rn:=hp.rn
 pb:=h.pb
 sa:=by have:=h.sa;have:=hp.s;omega
 gv:=fun v=>by
  rw[hp.gv,h.gv]
  split<;>split<;>omega
end Go.Fl
