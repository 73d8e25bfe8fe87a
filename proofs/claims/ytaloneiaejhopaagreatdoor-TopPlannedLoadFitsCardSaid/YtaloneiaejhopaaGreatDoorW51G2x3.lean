/-
  Least distances in a network with a flow (plain Lean): what the search keeps, and what it has found out in the end. No condition; no program.
-/
import Derived.Test.YtaloneiaejhopaaGreatDoorW51G1x3
import Derived.Test.YtaloneiaejhopaaGreatDoorW51G0x3
import Derived.Test.YtaloneiaejhopaaGreatDoorEvY
set_option linter.all false
open Int renaming le_refl->wB,le_trans->wC
open List renaming getD_eq_getElem?_getD->wD,length_append->wE,getElem?_eq_getElem->wF,getElem?_append_left->wG,mem_singleton->wH,dropLast_concat_getLast->wJ,mem_map->wK,mem_cons->wM,mem_append->wN,cons_append->wO,length_map->wP,getElem_of_mem->wQ,append_assoc->wR,length_eq_zero_iff->wS,length_drop->wT,take_append_drop->wU,mem_cons_of_mem->wW,length_take->wX,getElem_mem->wY,getElem?_replicate->wZ,mem_cons_self->w0,length_cons->w1,drop_drop->w2
namespace Go.Fl
inductive Pa (g:Nt)(fl pr:List Int)(s:Nat)(out:List Int):Nat->List Nat->Int->Prop
 | nil:nth out s<=0->Pa g fl pr s out s [s] 0
 | cons {u:Nat} {P:List Nat} {c:Int} {i:Nat}:Pa g fl pr s out u P c->inc g u i->0<room g fl u i->oth g u i∉P->nth out (oth g u i)<=c+red g pr u i->Pa g fl pr s out (oth g u i) (oth g u i::P) (c+red g pr u i)
section
variable {g :Nt} {K:Int} {fl pr:List Int} {s to:Nat} {out:List Int} {adj:Nat->List Nat}
theorem Pa.mono {out':List Int}(hm:∀v,nth out' v<=nth out v){v:Nat}{P:List Nat}{c:Int}(h:Pa g fl pr s out v P c):Pa g fl pr s out' v P c:=by
 induction h with
 | nil h=>exact .nil (wC (hm _) h)
 | cons _ hi hp hn ho ih=>exact .cons ih hi hp hn (wC (hm _) ho)
theorem Pa.le (hr:RN g fl pr){v:Nat}{P:List Nat}{c:Int}(h:Pa g fl pr s out v P c):0<=c/\(∀w∈P,nth out w<=c)/\v∈P/\s∈P:=by
 induction h with
 | nil h=>exact⟨wB _,fun w hw=>by rw[wH]at hw;rw[hw];exact h,by simp,by simp⟩
 | cons _ hi hp hn ho ih =>
   have:=hr _ _ hi hp;obtain⟨h1,h2,h3,h4⟩:=ih;refine⟨by omega,fun w hw=> ?_,by simp,by simp[h4]⟩;rcases wM.1 hw with rfl|hw
   . exact ho
   . have:=h2 w hw;omega
theorem Pa.nd (hg:NOk g K)(hs:s<g.n){v:Nat}{P:List Nat}{c:Int}(h:Pa g fl pr s out v P c):P.Nodup/\(∀w∈P,w<g.n)/\P≠[]:=by
 induction h with
 | nil _=>exact⟨by simp,fun w hw=>by rw[wH]at hw;rw[hw];exact hs,by simp⟩
 | cons _ hi _ hn _ ih =>
   refine⟨List.nodup_cons.2 ⟨hn,ih.1⟩,fun w hw=> ?_,by simp⟩;rcases wM.1 hw with rfl|hw
   . exact jI hg hi
   . exact ih.2.1 w hw
theorem yk :∀{n:Nat} {P:List Nat},P.Nodup->(∀w∈P,w<n)->P.length<=n
 | 0,P,_,hw=>by
   cases P with
   | nil=>simp
   | cons w P=>have:=hw w (by simp);omega
 | n+1,P,hP,hw=>by
   have h1:(P.erase n).Nodup:=hP.erase n;have h2:∀w∈P.erase n,w<n:=fun w h=>by have h3:=(List.Nodup.mem_erase_iff hP).1 h;have:=hw w h3.2;have:=h3.1;omega
   have:=yk h1 h2;rw[List.length_erase]at this;split at this<;>omega
theorem Pa.cost (hg:NOk g K){v:Nat}{P:List Nat}{c:Int}(h:Pa g fl pr s out v P c):c<=((P.length:Int)-1)*K+nth pr s-nth pr v:=by
 induction h with
 | nil _=>simp
 | @cons u P c i hp hi _ _ _ ih =>
   have hk:=hg.k i hi.1;have h1:cst g u i<=K:=by unfold cst;split<;>omega
   have e:((P.length+1:Nat):Int)-1=((P.length:Int)-1)+1:=by omega
   rw[w1,e,Int.add_mul,Int.one_mul];unfold red;generalize ((P.length:Int)-1)*K=z at *
   omega
structure PB (g:Nt)(K:Int)(pr:List Int)(s to:Nat):Prop where
 l:pr.length=g.n
 s:nth pr s=0
 b:∀k,k<g.n->0<=nth pr k/\nth pr k<=nth pr to
 t:nth pr to<=(g.n:Int)*K
theorem Pa.bd (hg:NOk g K)(hK:0<=K)(hs:s<g.n)(hp:PB g K pr s to){v:Nat}{P:List Nat}{c:Int}(h:Pa g fl pr s out v P c):c+nth pr v<=(g.n:Int)*K:=by obtain⟨h1,h2,h3⟩:=h.nd hg hs;have h4:=yk h1 h2;have h5:=h.cost hg;rw[hp.s]at h5;have h6:((P.length:Int)-1)*K<=(g.n:Int)*K:=Int.mul_le_mul_of_nonneg_right (by omega) hK;omega
def far :Int:=4611686018427387904
structure DI (g:Nt)(fl pr:List Int)(s:Nat)(out:List Int)(L:List (Int×Nat)):Prop where
 l:out.length=g.n
 sz:nth out s=0
 p:∀v,v<g.n->nth out v=far\/∃P,Pa g fl pr s out v P (nth out v)
 h:∀e∈L,e.2<g.n/\nth out e.2<=e.1/\e.1<far
 r:∀v,v<g.n->nth out v<far->(nth out v,v)∈L\/∀i,inc g v i->0<room g fl v i->nth out (oth g v i)<=nth out v+red g pr v i
structure DJ (g:Nt)(fl pr:List Int)(s:Nat)(adj:Nat->List Nat)(u j:Nat)(out:List Int)(L:List (Int×Nat)):Prop where
 l:out.length=g.n
 sz:nth out s=0
 p:∀v,v<g.n->nth out v=far\/∃P,Pa g fl pr s out v P (nth out v)
 h:∀e∈L,e.2<g.n/\nth out e.2<=e.1/\e.1<far
 r:∀v,v<g.n->v≠u->nth out v<far->(nth out v,v)∈L\/∀i,inc g v i->0<room g fl v i->nth out (oth g v i)<=nth out v+red g pr v i
 uf:nth out u<far
 j:∀j',j'<j->∀i,(adj u)[j']? =some i->0<room g fl u i->nth out (oth g u i)<=nth out u+red g pr u i
theorem Ya (hs:s<g.n):DI g fl pr s ((List.replicate g.n far).set s 0) [(0,s)]:=by
 have hl:s<(List.replicate g.n far).length:=by simp[hs]
 have hn:∀v,v<g.n->v≠s->nth ((List.replicate g.n far).set s 0) v=far:=fun v hv hne=>by rw[bZ hl,if_neg hne];unfold nth;rw[wD,wZ,if_pos hv];rfl
 have h0:nth ((List.replicate g.n far).set s 0) s=0:=by rw[bZ hl,if_pos rfl]
 refine⟨by simp,h0,fun v hv=> ?_,fun e he=> ?_,fun v hv hf=> ?_⟩
 . by_cases e:v=s
   . subst e;rw[h0];exact .inr ⟨_,.nil (by rw[h0];exact wB _)⟩
   . exact .inl (hn v hv e)
 . rw[wH]at he;subst he;exact⟨hs,by rw[h0];exact wB _,by show(0:Int)<far;unfold far;decide⟩
 . by_cases e:v=s
   . subst e;rw[h0];exact .inl (by simp)
   . rw[hn v hv e]at hf;omega
theorem Am {L L1:List (Int×Nat)}{e x:Int×Nat}(h:L.Perm (e::L1))(hx:x∈L)(hne:x≠e):x∈L1:=by
 rcases wM.1 (h.mem_iff.1 hx)with h1|h1
 . exact absurd h1 hne
 . exact h1
theorem Lc {L L1:List (Int×Nat)}(h:DI g fl pr s out L){d:Int}{u:Nat}(hp:L.Perm ((d,u)::L1))(hd:nth out u<d):DI g fl pr s out L1 :=
 ⟨h.l,h.sz,h.p,fun e he=>h.h e (hp.mem_iff.2 (wW _ he)),fun v hv hf=>by
   rcases h.r v hv hf with h1|h1
   . refine .inl (Am hp h1 fun e=> ?_);obtain⟨e1,e2⟩:=Prod.mk.inj e;rw[e2]at e1;omega
   . exact .inr h1⟩
theorem On {L L1:List (Int×Nat)}(h:DI g fl pr s out L){d:Int}{u:Nat}(hp:L.Perm ((d,u)::L1))(hd:¬nth out u<d):nth out u=d/\DJ g fl pr s adj u 0 out L1:=by
 have h1:=h.h (d,u) (hp.mem_iff.2 w0);have e:nth out u=d:=by have:=h1.2.1;simp only at this;omega
 refine⟨e,h.l,h.sz,h.p,fun e he=>h.h e (hp.mem_iff.2 (wW _ he)),fun v hv hne hf=> ?_,by rw[e];exact h1.2.2,fun j' hj=>absurd hj (Nat.not_lt_zero j')⟩;rcases h.r v hv hf with h2|h2
 . exact .inl (Am hp h2 fun e=>hne (Prod.mk.inj e).2)
 . exact .inr h2
theorem EH {u j:Nat}{L:List (Int×Nat)}(h:DJ g fl pr s adj u j out L){i:Nat}(hj:(adj u)[j]? =some i)(hs:room g fl u i<=0\/nth out (oth g u i)<=nth out u+red g pr u i):DJ g fl pr s adj u (j+1) out L :=
 ⟨h.l,h.sz,h.p,h.h,h.r,h.uf,fun j' hj' i' hi' hp=>by
   by_cases e:j'=j
   . subst e;rw[hj]at hi';obtain rfl:=Option.some.inj hi';rcases hs with hs|hs
     . omega
     . exact hs
   . exact h.j j' (by omega) i' hi' hp⟩
theorem Db (hg:NOk g K)(hr:RN g fl pr)(hpb:PB g K pr s to)(hK:0<=K)(hB:(g.n:Int)*K<far)(hsn:s<g.n){u j:Nat}(hun:u<g.n){L L':List (Int×Nat)}(h:DJ g fl pr s adj u j out L){i:Nat}(hj:(adj u)[j]? =some i)(hi:inc g u i)(hp:0<room g fl u i)
  (hn:nth out u+red g pr u i<nth out (oth g u i)) (hL:L'.Perm ((nth out u+red g pr u i,oth g u i)::L)) :
  DJ g fl pr s adj u (j+1) (out.set (oth g u i) (nth out u+red g pr u i)) L'/\0<=nth out u+red g pr u i/\nth out u+red g pr u i<=(g.n:Int)*K:=by
 have hxn:=jI hg hi;have hxu:=IQ hg hi;have hrd:=hr u i hi hp;have hxl:oth g u i<out.length:=by rw[h.l];exact hxn
 obtain⟨P,hP⟩:∃P,Pa g fl pr s out u P (nth out u):=by
  rcases h.p u hun with e|e
  . have:=h.uf;omega
  . exact e
 have hle:=hP.le hr;have hgen:∀n,n=nth out u+red g pr u i->n<nth out (oth g u i)->DJ g fl pr s adj u (j+1) (out.set (oth g u i) n) L'/\0<=n/\n<=(g.n:Int)*K:=by
  intro n hne hn;have hnx:oth g u i∉P:=fun hm=>by have:=hle.2.1 _ hm;omega
  have hset:∀v,nth (out.set (oth g u i) n) v=if v=oth g u i then n else nth out v:=fun v=>bZ hxl n v
  have hmono:∀v,nth (out.set (oth g u i) n) v<=nth out v:=fun v=>by
   rw[hset];split
   . rename_i e;rw[e];omega
   . exact wB _
  have hou:nth (out.set (oth g u i) n) u=nth out u:=by rw[hset,if_neg (fun e=>hxu e.symm)]
  have hPx:Pa g fl pr s (out.set (oth g u i) n) (oth g u i) (oth g u i::P) n:=by
   rw[hne];refine .cons ?_ hi hp hnx ?_
   . rw[<-hne];exact hP.mono hmono
   . rw[<-hne,hset,if_pos rfl];exact wB _
  have hbd:=hPx.bd hg hK hsn hpb;have hpx:=(hpb.b _ hxn).1;have h0:=(hPx.le hr).1;have hxs:oth g u i≠s:=fun e=>by rw[e,h.sz]at hn;omega
  refine⟨⟨by simp;exact h.l,?_,fun v hv=> ?_,fun e he=> ?_,fun v hv hne' hf=> ?_,by rw[hou];exact h.uf,fun j' hj' i' hi' hp'=> ?_⟩,h0,by omega⟩
  . rw[hset,if_neg (fun e=>hxs e.symm)];exact h.sz
  . by_cases e:v=oth g u i
    . rw[hset,if_pos e,e];exact .inr ⟨_,hPx⟩
    . rw[hset,if_neg e];rcases h.p v hv with h1|⟨P',h1⟩
      . exact .inl h1
      . exact .inr ⟨P',h1.mono hmono⟩
  . rcases wM.1 (hL.mem_iff.1 he)with rfl|h1
    . rw[<-hne];refine⟨hxn,?_,by show n<far;omega⟩;show nth (out.set (oth g u i) n) (oth g u i)<=n;rw[hset,if_pos rfl];exact wB _
    . obtain⟨g1,g2,g3⟩:=h.h e h1;exact⟨g1,wC (hmono _) g2,g3⟩
  . by_cases e:v=oth g u i
    . left;rw[hset,if_pos e,e,hL.mem_iff,hne];exact w0
    . rw[hset,if_neg e]at hf ⊢;rcases h.r v hv hne' hf with h1|h1
      . left;rw[hL.mem_iff];exact wW _ h1
      . exact .inr fun i' hi' hp'=>wC (hmono _) (h1 i' hi' hp')
  . by_cases e:j'=j
    . subst e;rw[hj]at hi';obtain rfl:=Option.some.inj hi';rw[hou,hset,if_pos rfl];omega
    . rw[hou];exact wC (hmono _) (h.j j' (by omega) i' hi' hp')
 exact hgen _ rfl hn
theorem K8 (ha:Adj g adj){u j:Nat}(hun:u<g.n){L:List (Int×Nat)}(h:DJ g fl pr s adj u j out L)(hj:(adj u).length<=j):DI g fl pr s out L :=
 ⟨h.l,h.sz,h.p,h.h,fun v hv hf=>by
   by_cases e:v=u
   . subst e;refine .inr fun i hi hp=> ?_
     obtain⟨j',hj',e3⟩:=wQ ((ha v hv i).2 hi);exact h.j j' (by omega) i (by rw[wF hj',e3]) hp
   . exact h.r v hv e hf⟩
def msr (B:Int):List Int->Nat
 | []=>0
 | x::l=>(if x<=B then x else B+1).toNat+msr B l
theorem ye {B:Int}:∀{l:List Int} {i:Nat} {n:Int},i<l.length->0<=n->n<=B->n<nth l i->msr B (l.set i n)<msr B l
 | [],i,_,h,_,_,_=>by simp at h
 | x::l,0,n,_,h0,h1,h2=>by have h3:n<x:=h2;rw[List.set_cons_zero,msr,msr,if_pos h1];split<;>omega
 | x::l,i+1,n,h,h0,h1,h2=>by rw[List.set_cons_succ,msr,msr];have:=ye (B:=B) (l:=l) (i:=i) (n:=n) (by simpa using h) h0 h1 h2;omega
theorem Ch {B:Int}(hB:0<=B):∀(l:List Int),msr B l<=l.length*(B+1).toNat
 | []=>by simp[msr]
 | x::l=>by have:=Ch hB l;rw[msr,w1,Nat.add_mul,Nat.one_mul];split<;>omega
end
def mi (a b:Int):Int:=if b<a then b else a
theorem sP (a b:Int):mi a b<=a/\mi a b<=b/\(mi a b=a\/mi a b=b):=by unfold mi;split<;>omega
inductive Z0 (g:Nt)(fl pr:List Int)(s:Nat):Nat->Prop
 | nil:Z0 g fl pr s s
 | cons {u i:Nat}:Z0 g fl pr s u->inc g u i->0<room g fl u i->red g pr u i=0->Z0 g fl pr s (oth g u i)
section
variable {g :Nt} {K:Int} {fl pr:List Int} {s to:Nat} {out:List Int}
theorem Ld (h:DI g fl pr s out []){v:Nat}(hv:v<g.n)(hf:nth out v<far){i:Nat}(hi:inc g v i)(hp:0<room g fl v i):nth out (oth g v i)<=nth out v+red g pr v i:=by
 rcases h.r v hv hf with h1|h1
 . cases h1
 . exact h1 i hi hp
theorem Bi (h:DI g fl pr s out [])(hr:RN g fl pr){v:Nat}(hv:v<g.n):0<=nth out v:=by
 rcases h.p v hv with e|⟨P,hP⟩
 . rw[e];unfold far;decide
 . exact(hP.le hr).1
variable (hg :NOk g K) (hK:0<=K) (hB:(g.n:Int)*K<1152921504606846976) (hs:s<g.n) (hto:to<g.n) (hr:RN g fl pr) (hpb:PB g K pr s to) (h:DI g fl pr s out [])
include hg hK hB hs hr hpb h
theorem Lf {v:Nat}(hv:v<g.n):nth out v=far\/nth out v+nth pr v<=(g.n:Int)*K:=by
 rcases h.p v hv with e|⟨P,hP⟩
 . exact .inl e
 . exact .inr (hP.bd hg hK hs hpb)
include hto
theorem XG {pr':List Int}(hpr:∀k,k<g.n->nth pr' k=nth pr k+mi (nth out k) (nth out to))(hD:nth out to<far){v:Nat}{P:List Nat}{c:Int}(hP:Pa g fl pr s out v P c) :
  c<=nth out v->c<=nth out to->Z0 g fl pr' s v:=by
 induction hP with
 | nil _=>exact fun _ _=>.nil
 | @cons u P c i hP hi hp hn ho ih =>
   intro h1 h2;have hle:=hP.le hr;have hrd:=hr u i hi hp;have hu:u<g.n:=(hP.nd hg hs).2.1 u hle.2.2.1;have huc:=hle.2.1 u hle.2.2.1;have hlx:=Ld h hu (by omega) hi hp;have e:c=nth out u:=by omega
   have hz:=ih (by omega) (by omega);refine .cons hz hi hp ?_;have e1:=hpr u hu;have e2:=hpr _ (jI hg hi);have e3:mi (nth out u) (nth out to)=nth out u:=by unfold mi;rw[if_neg (by omega)]
   have e4:mi (nth out (oth g u i)) (nth out to)=nth out (oth g u i):=by unfold mi;rw[if_neg (by omega)]
   rw[e3]at e1;rw[e4]at e2;unfold red at *
   omega
theorem M8 (hD:nth out to<far){pr':List Int}(hl:pr'.length=g.n)(hpr:∀k,k<g.n->nth pr' k=nth pr k+mi (nth out k) (nth out to)) :
  RN g fl pr'/\PB g K pr' s to/\Z0 g fl pr' s to:=by
 refine⟨fun u i hi hp=> ?_,⟨hl,?_,fun k hk=> ?_,?_⟩,?_⟩
 . have hu:u<g.n:=by
    have h2:=jI hg (NV hi)
    rwa [Ec hg hi]at h2
   have hx:=jI hg hi;have e1:=hpr u hu;have e2:=hpr _ hx;have h0:=hr u i hi hp;have hxn:=Bi h hr hx;have m1:=sP (nth out u) (nth out to);have m2:=sP (nth out (oth g u i)) (nth out to);by_cases hf:nth out u<far
   . have hlx:=Ld h hu hf hi hp;unfold red at *
     omega
   . have:nth out u=far:=by
      rcases h.p u hu with e|⟨P,hP⟩
      . exact e
      . have:=hP.bd hg hK hs hpb;have h3:=(hpb.b u hu).1;unfold far at hf;omega
     have e3:mi (nth out u) (nth out to)=nth out to:=by unfold mi;rw[if_pos (by omega)]
     unfold red at *
     omega
 . have:=hpr s hs;have h0:=h.sz;have h1:=hpb.s;have h2:=Bi h hr hto;have m1:mi 0 (nth out to)=0:=by unfold mi;rw[if_neg (by omega)]
   rw[h0,m1]at this;omega
 . have e1:=hpr k hk;have e2:=hpr to hto;have h1:=hpb.b k hk;have h2:=Bi h hr hk;have h3:=Bi h hr hto;have m1:=sP (nth out k) (nth out to);have m2:mi (nth out to) (nth out to)=nth out to:=by unfold mi;split<;>rfl
   rw[m2]at e2;omega
 . have e2:=hpr to hto;have m2:mi (nth out to) (nth out to)=nth out to:=by unfold mi;split<;>rfl
   rw[m2]at e2;rcases Lf hg hK hB hs hr hpb h hto with e|e
   . omega
   . omega
 . rcases h.p to hto with e|⟨P,hP⟩
   . omega
   . exact XG hg hK hB hs hto hr hpb h hpr hD hP (wB _) (wB _)
omit hg hK hB hs hto hr hpb h
theorem RC {M r:Int}{fl0:List Int}{dead0 dead:List Bool}(hp:PP g pr to s M fl0 dead0 fl dead r)(hM:0<M)(hd:∀v,dd dead0 v=false)(hz:Z0 g fl0 pr s to):0<r:=by
 have hs:=hp.s;by_cases e:r=0
 . exfalso;obtain⟨z1,z2,z3,z4⟩:=hp.z e hM
   have h1:∀v,Z0 g fl0 pr s v->dd dead v=true:=fun v hv=>by
    induction hv with
    | nil=>exact z3
    | @cons u i hu hi hp hz0 ih =>
      rcases z4 u ih with h2|h2
      . rw[hd]at h2;cases h2
      . exact h2.2 i hi hp hz0
   rcases z4 to (h1 to hz)with h2|h2
   . rw[hd]at h2;cases h2
   . exact h2.1 rfl
 . omega
end
structure SI (g:Nt)(K:Int)(s to:Nat)(A:Int)(fl pr:List Int)(sent:Int):Prop where
 fb:FB g fl
 rn:RN g fl pr
 pb:PB g K pr s to
 sa:0<=sent/\sent<=A
 gv:∀v,giv g.a fl v g.a.length=(if v=s then sent else 0)-(if v=to then sent else 0)
theorem gN {n:Nat}(v:Nat):nth (List.replicate n 0) v=0:=by unfold nth;rw[wD,wZ];split<;>rfl
theorem PM (a:List Ar)(n v:Nat):∀m,giv a (List.replicate n 0) v m=0
 | 0=>rfl
 | m+1=>by rw[giv,PM a n v m,gN];split<;>split<;>rfl
theorem XL {g:Nt}{K:Int}(hg:NOk g K)(hK:0<=K){s to:Nat}{A:Int}(hA:0<=A):SI g K s to A (List.replicate g.a.length 0) (List.replicate g.n 0) 0 where
 fb:=⟨by simp,fun i hi=>by rw[gN];exact⟨wB _,hg.c i hi⟩⟩
 rn:=fun u i hi hp=>by
  have hk:=hg.k i hi.1;unfold room at hp;rw[gN]at hp;unfold red cst;rw[gN,gN];by_cases e:(art g.a i).f=u
  . rw[if_pos e];omega
  . rw[if_neg e]at hp;omega
 pb:=⟨by simp,gN _,fun k hk=>by rw[gN,gN];omega,by rw[gN];exact Int.mul_nonneg (by omega) hK⟩
 sa:=⟨wB _,hA⟩
 gv:=fun v=>by rw[PM];split<;>split<;>rfl
theorem SI.price {g:Nt}{K:Int}{s to:Nat}{A:Int}{fl pr pr':List Int}{sent:Int}(h:SI g K s to A fl pr sent)(hr:RN g fl pr')(hp:PB g K pr' s to):SI g K s to A fl pr' sent:=⟨h.fb,hr,hp,h.sa,h.gv⟩
theorem SI.push {g:Nt}{K:Int}{s to:Nat}{A:Int}{fl pr:List Int}{sent:Int}(h:SI g K s to A fl pr sent){dead0 dead:List Bool}{fl':List Int}{r:Int}(hp:PP g pr to s (A-sent) fl dead0 fl' dead r):SI g K s to A fl' pr (sent+r) where
 fb:=hp.fb
 rn:=hp.rn
 pb:=h.pb
 sa:=by have:=h.sa;have:=hp.s;omega
 gv:=fun v=>by rw[hp.gv,h.gv];split<;>split<;>omega
structure Sp where
 kd:Int
 nu:Int
 cp:Int
structure Rd where
 f:Int
 t:Int
 c:Int
 k:Int
def spt (l:List Sp)(i:Nat):Sp:=l.getD i ⟨0,0,0⟩
def rdt (l:List Rd)(i:Nat):Rd:=l.getD i ⟨0,0,0,0⟩
structure POk (p:List Sp)(r:List Rd):Prop where
 pn:p.length<=100
 rn:r.length<=1500
 kd:∀i,i<p.length->(spt p i).kd=1\/(spt p i).kd=2\/(spt p i).kd=3
 nu:∀i,i<p.length->0<=(spt p i).nu/\(spt p i).nu<=1073741824
 cp:∀i,i<p.length->0<=(spt p i).cp/\(spt p i).cp<=1073741824
 tw:∀i j,i<j->j<p.length->¬((spt p i).kd=(spt p j).kd/\(spt p i).nu=(spt p j).nu)
 rf:∀i,i<r.length->0<=(rdt r i).f/\(rdt r i).f<p.length/\0<=(rdt r i).t/\(rdt r i).t<p.length/\(rdt r i).f≠(rdt r i).t
 rc:∀i,i<r.length->0<=(rdt r i).c/\(rdt r i).c<=1073741824/\0<=(rdt r i).k/\(rdt r i).k<=1048576
 rk:∀i,i<r.length->(spt p (rdt r i).f.toNat).kd≠3/\(spt p (rdt r i).t.toNat).kd≠1
def ofK (p:List Sp)(kd:Int):Nat->List Nat
 | 0=>[]
 | i+1=>if(spt p i).kd=kd then ofK p kd i++[i]else ofK p kd i
theorem cZ {p:List Sp}{kd:Int}{x:Nat}:∀{i:Nat},x∈ofK p kd i↔x<i/\(spt p x).kd=kd
 | 0=>by simp[ofK]
 | i+1=>by
   rw[ofK];split
   . rename_i h;rw[wN,cZ,wH];constructor
     . rintro (⟨h1,h2⟩|rfl)
       . exact⟨by omega,h2⟩
       . exact⟨by omega,h⟩
     . rintro ⟨h1,h2⟩;by_cases e:x=i
       . exact .inr e
       . exact .inl ⟨by omega,h2⟩
   . rename_i h;rw[cZ];constructor
     . rintro ⟨h1,h2⟩;exact⟨by omega,h2⟩
     . rintro ⟨h1,h2⟩;by_cases e:x=i
       . rw[e]at h2;exact absurd h2 h
       . exact⟨by omega,h2⟩
def aP (p:List Sp):Nat->List Ar
 | 0=>[]
 | i+1=>aP p i++[⟨2+2*i,3+2*i,(spt p i).cp,0⟩]
def aS (p:List Sp)(l:List Nat):List Ar:=l.map fun i=>⟨0,2+2*i,(spt p i).cp,0⟩
def aO (p:List Sp)(l:List Nat):List Ar:=l.map fun i=>⟨3+2*i,1,(spt p i).cp,0⟩
def aR (r:List Rd):List Ar:=r.map fun x=>⟨3+2*x.f.toNat,2+2*x.t.toNat,x.c,x.k⟩
def aJ (p:List Sp)(r:List Rd):List Ar:=aP p p.length++aS p (ofK p 1 p.length)++aO p (ofK p 3 p.length)++aR r
def net (p:List Sp)(r:List Rd):Nt:=⟨2+2*p.length,aJ p r⟩
def dem (p:List Sp):List Nat->Int
 | []=>0
 | i::l=>(spt p i).cp+dem p l
theorem cM (p:List Sp):∀i,(aP p i).length=i
 | 0=>rfl
 | i+1=>by rw[aP,wE,cM p i];rfl
theorem j3 {l:List Ar}{i:Nat}(h:i<l.length):art l i∈l:=by unfold art;rw[wD,wF h];exact wY h
theorem zn {p:List Sp}{a:Ar}:∀{n:Nat},a∈aP p n->∃i,i<n/\a=⟨2+2*i,3+2*i,(spt p i).cp,0⟩
 | 0,h=>by simp[aP]at h
 | n+1,h=>by
   rw[aP,wN,wH]at h;rcases h with h|rfl
   . obtain⟨i,h1,h2⟩:=zn h;exact⟨i,by omega,h2⟩
   . exact⟨n,by omega,rfl⟩
theorem qX {r:List Rd}{x:Rd}(h:x∈r):∃i,i<r.length/\rdt r i=x:=by obtain⟨i,hi,e⟩:=wQ h;exact⟨i,hi,by unfold rdt;rw[wD,wF hi];exact e⟩
theorem Cg {p:List Sp}{r:List Rd}(h:POk p r):NOk (net p r) 1048576:=by
 have key:∀a∈aJ p r,a.f<2+2*p.length/\a.t<2+2*p.length/\a.f≠a.t/\0<=a.c/\0<=a.k/\a.k<=1048576:=by
  intro a ha;unfold aJ at ha;rw[wN,wN,wN]at ha;rcases ha with ((ha|ha)|ha)|ha
  . obtain⟨i,hi,rfl⟩:=zn ha;have:=h.cp i hi;exact⟨by show 2+2*i<_;omega,by show 3+2*i<_;omega,by show 2+2*i≠3+2*i;omega,this.1,wB _,by show(0:Int)<=_;decide⟩
  . unfold aS at ha;obtain⟨i,hi,rfl⟩:=wK.1 ha;have hi:=(cZ.1 hi).1;have:=h.cp i hi;exact⟨by show 0<_;omega,by show 2+2*i<_;omega,by show 0≠2+2*i;omega,this.1,wB _,by show(0:Int)<=_;decide⟩
  . unfold aO at ha;obtain⟨i,hi,rfl⟩:=wK.1 ha;have hi:=(cZ.1 hi).1;have:=h.cp i hi;exact⟨by show 3+2*i<_;omega,by show 1<_;omega,by show 3+2*i≠1;omega,this.1,wB _,by show(0:Int)<=_;decide⟩
  . unfold aR at ha;obtain⟨x,hx,rfl⟩:=wK.1 ha;obtain⟨i,hi,rfl⟩:=qX hx;have h1:=h.rf i hi;have h2:=h.rc i hi;exact⟨by show 3+2*(rdt r i).f.toNat<_;omega,by show 2+2*(rdt r i).t.toNat<_;omega,by show 3+2*(rdt r i).f.toNat≠2+2*(rdt r i).t.toNat;omega,h2.1,h2.2.2.1,h2.2.2.2⟩
 exact⟨fun i hi=>(key _ (j3 hi)).1,fun i hi=>(key _ (j3 hi)).2.1,fun i hi=>(key _ (j3 hi)).2.2.1,fun i hi=>(key _ (j3 hi)).2.2.2.1,fun i hi=>(key _ (j3 hi)).2.2.2.2⟩
def sIf (P:Ar->Bool):List Ar->List Int->Int
 | a::l,x::f=>(if P a then x else 0)+sIf P l f
 | _,_=>0
theorem fZ (P:Ar->Bool):∀{a b:List Ar} {f g:List Int},a.length=f.length->sIf P (a++b) (f++g)=sIf P a f+sIf P b g
 | [],b,[],g,_=>by simp[sIf]
 | x::a,b,y::f,g,h=>by rw[wO,wO,sIf,sIf,fZ P (by simpa using h)];omega
 | [],_,_::_,_,h=>by simp at h
 | _::_,_,[],_,h=>by simp at h
theorem qe {P:Ar->Bool}:∀{a:List Ar} {f:List Int},(∀x∈a,P x=false)->sIf P a f=0
 | [],_,_=>by simp[sIf]
 | x::a,[],_=>by simp[sIf]
 | x::a,y::f,h=>by rw[sIf,h x (by simp),qe fun z hz=>h z (by simp[hz])];rfl
theorem qT {P:Ar->Bool}:∀{a:List Ar} {f:List Int} {i:Nat},a.length=f.length->i<a.length->P (art a i)=true->(∀j,j<a.length->j≠i->P (art a j)=false)->sIf P a f=nth f i
 | [],f,i,_,hi,_,_=>by simp at hi
 | x::a,[],i,h,_,_,_=>by simp at h
 | x::a,y::f,0,h,hi,hp,hn=>by
   have hp':P x=true:=hp;rw[sIf,if_pos hp',qe fun z hz=>by
    obtain⟨j,hj,rfl⟩:=wQ hz;have:=hn (j+1) (by simpa using hj) (by omega);unfold art at this;rw[List.getD_cons_succ,wD,wF hj]at this;exact this]
   simp[nth]
 | x::a,y::f,i+1,h,hi,hp,hn=>by
   have h0:P x=false:=hn 0 (by simp) (by omega);rw[sIf,h0];have:=qT (P:=P) (a:=a) (f:=f) (i:=i) (by simpa using h) (by simpa using hi) (by simpa[art]using hp) (fun j hj hne=>by
    have:=hn (j+1) (by simpa using hj) (by omega);simpa[art]using this)
   rw[this];simp[nth]
theorem ET (a:List Ar)(x:Ar){i:Nat}(h:i<a.length):art (a++[x]) i=art a i:=by unfold art;rw[wD,wD,wG h]
theorem Et {a b:List Ar}{f g:List Int}{v:Nat}:∀{m:Nat},(∀i,i<m->art a i=art b i/\nth f i=nth g i)->giv a f v m=giv b g v m
 | 0,_=>rfl
 | m+1,h=>by rw[giv,giv,Et fun i hi=>h i (by omega),(h m (by omega)).1,(h m (by omega)).2]
theorem vZ (v:Nat):∀(n:Nat) {a:List Ar} {f:List Int},a.length=n->f.length=n->giv a f v n=sIf (fun x=>decide (x.f=v)) a f-sIf (fun x=>decide (x.t=v)) a f
 | 0,a,f,h,h'=>by obtain rfl:=wS.1 h;simp[giv,sIf]
 | n+1,a0,f0,h,h'=>by
   obtain⟨a,x,rfl⟩:∃g y,a0=g++[y]:=by
    have hne:a0≠[]:=fun e=>by rw[e]at h;simp at h
    exact⟨a0.dropLast,a0.getLast hne,(wJ hne).symm⟩
   obtain⟨g,y,rfl⟩:∃g y,f0=g++[y]:=by
    have hne:f0≠[]:=fun e=>by rw[e]at h';simp at h'
    exact⟨f0.dropLast,f0.getLast hne,(wJ hne).symm⟩
   have hl:a.length=n:=by simpa using h
   have hl':g.length=n:=by simpa using h'
   rw[giv,fZ _ (hl.trans hl'.symm),fZ _ (hl.trans hl'.symm)];have e1:giv (a++[x]) (g++[y]) v n=giv a g v n:=Et fun i hi=>⟨ET a x (by omega),by unfold nth;rw[wD,wD,wG (by omega)]⟩
   have e2:art (a++[x]) n=x:=by unfold art;rw[<-hl];simp
   have e3:nth (g++[y]) n=y:=by unfold nth;rw[<-hl'];simp
   rw[e1,vZ v n hl hl',e2,e3];simp only[sIf,decide_eq_true_eq];omega
theorem Es (v:Nat){a:List Ar}{f:List Int}(h:a.length=f.length):giv a f v a.length=sIf (fun x=>decide (x.f=v)) a f-sIf (fun x=>decide (x.t=v)) a f:=vZ v _ rfl h.symm
theorem zh {p:List Sp}{i:Nat}:∀{n:Nat},i<n->art (aP p n) i=⟨2+2*i,3+2*i,(spt p i).cp,0⟩
 | 0,h=>absurd h (Nat.not_lt_zero _)
 | n+1,h=>by
   rw[aP];by_cases e:i=n
   . subst e;unfold art;rw[wD,List.getElem?_append_right (by rw[cM];exact Nat.le_refl _),cM];simp
   . rw[ET _ _ (by rw[cM];omega),zh (show i<n by omega)]
theorem lL {p:List Sp}{r:List Rd}{i:Nat}(h:i<p.length):art (aJ p r) i=⟨2+2*i,3+2*i,(spt p i).cp,0⟩:=by rw[<-zh h];unfold aJ art;rw[wD,wD,wR,wR,wG (by rw[cM];exact h)]
theorem bU (p:List Sp)(r:List Rd):(aJ p r).length=p.length+(ofK p 1 p.length).length+(ofK p 3 p.length).length+r.length:=by unfold aJ aS aO aR;rw[wE,wE,wE,cM,wP,wP,wP]
def rds (p:List Sp)(r:List Rd)(fl:List Int):List Int:=fl.drop (p.length+(ofK p 1 p.length).length+(ofK p 3 p.length).length)
theorem D3 {p:List Sp}{r:List Rd}{fl:List Int}(h:fl.length=(aJ p r).length):(rds p r fl).length=r.length:=by unfold rds;rw[wT,h,bU];omega
def sRd (P:Rd->Bool):List Rd->List Int->Int
 | x::l,y::f=>(if P x then y else 0)+sRd P l f
 | _,_=>0
theorem DX {P:Ar->Bool}{Q:Rd->Bool}:∀{r:List Rd} {f:List Int},(∀x∈r,P ⟨3+2*x.f.toNat,2+2*x.t.toNat,x.c,x.k⟩=Q x)->sIf P (aR r) f=sRd Q r f
 | [],f,_=>by unfold aR;cases f<;>rfl
 | x::r,[],_=>rfl
 | x::r,y::f,h=>by
   have:=DX (P:=P) (Q:=Q) (r:=r) (f:=f) fun z hz=>h z (by simp[hz])
   show(if P _ then y else 0)+sIf P (aR r) f=_;rw[h x (by simp),this];rfl
theorem VR {g:Nt}{fl:List Int}(h:FB g fl):∀x∈fl,0<=x:=fun x hx=>by obtain⟨i,hi,e⟩:=wQ hx;have:=(h.b i (by rw[<-h.l];exact hi)).1;unfold nth at this;rw[wD,wF hi]at this;rw[<-e];exact this
theorem Fp {p:List Sp}{r:List Rd}(h:POk p r){fl:List Int}(hb:FB (net p r) fl){i:Nat}(hi:i<p.length)(hk:(spt p i).kd=3)(hz:giv (aJ p r) fl (2+2*i) (aJ p r).length=0) :
  sRd (fun x=>decide (x.t=i)) r (rds p r fl)=nth fl i:=by
 have hl:fl.length=(aJ p r).length:=hb.l;have hlen:=bU p r;rw[Es _ hl.symm]at hz;have e0:fl=fl.take p.length++(fl.drop p.length).take (ofK p 1 p.length).length++((fl.drop p.length).drop (ofK p 1 p.length).length).take (ofK p 3 p.length).length++rds p r fl:=by unfold rds;rw[wR,wR,<-w2,<-w2,wU,wU,wU]
 have l1:(aP p p.length).length=(fl.take p.length).length:=by rw[cM,wX];omega
 have l2:(aS p (ofK p 1 p.length)).length=((fl.drop p.length).take (ofK p 1 p.length).length).length:=by unfold aS;rw[wP,wX,wT];omega
 have l3:(aO p (ofK p 3 p.length)).length=(((fl.drop p.length).drop (ofK p 1 p.length).length).take (ofK p 3 p.length).length).length:=by unfold aO;rw[wP,wX,wT,wT];omega
 have n1:nth (fl.take p.length) i=nth fl i:=by unfold nth;rw[wD,wD,List.getElem?_take_of_lt hi]
 have split:∀P,sIf P (aJ p r) fl=sIf P (aP p p.length) (fl.take p.length)+sIf P (aS p (ofK p 1 p.length)) ((fl.drop p.length).take (ofK p 1 p.length).length)+sIf P (aO p (ofK p 3 p.length)) (((fl.drop p.length).drop (ofK p 1 p.length).length).take (ofK p 3 p.length).length)+sIf P (aR r) (rds p r fl):=fun P=>by
  conv=>lhs;rw[e0]
  unfold aJ;rw[fZ P (by rw[wE,wE,wE,wE,l1,l2,l3]),fZ P (by rw[wE,wE,l1,l2]),fZ P l1]
 rw[split,split]at hz;have a1:sIf (fun x=>decide (x.f=2+2*i)) (aP p p.length) (fl.take p.length)=nth fl i:=by
  rw[<-n1];refine qT l1 (by rw[cM];exact hi) ?_ fun j hj hne=> ?_
  . rw[zh hi];simp
  . rw[cM]at hj;rw[zh hj];simp;omega
 have a2:sIf (fun x=>decide (x.t=2+2*i)) (aP p p.length) (fl.take p.length)=0:=qe fun x hx=>by obtain⟨j,_,rfl⟩:=zn hx;simp;omega
 have b1:sIf (fun x=>decide (x.f=2+2*i)) (aS p (ofK p 1 p.length)) ((fl.drop p.length).take (ofK p 1 p.length).length)=0:=qe fun x hx=>by unfold aS at hx;obtain⟨j,_,rfl⟩:=wK.1 hx;simp;omega
 have b2:sIf (fun x=>decide (x.t=2+2*i)) (aS p (ofK p 1 p.length)) ((fl.drop p.length).take (ofK p 1 p.length).length)=0:=qe fun x hx=>by
  unfold aS at hx;obtain⟨j,hj,rfl⟩:=wK.1 hx;have h2:=(cZ.1 hj).2;simp only[decide_eq_false_iff_not];intro e;have:j=i:=by omega
  rw[this,hk]at h2;cases h2
 have c1:sIf (fun x=>decide (x.f=2+2*i)) (aO p (ofK p 3 p.length)) (((fl.drop p.length).drop (ofK p 1 p.length).length).take (ofK p 3 p.length).length)=0:=qe fun x hx=>by unfold aO at hx;obtain⟨j,_,rfl⟩:=wK.1 hx;simp;omega
 have c2:sIf (fun x=>decide (x.t=2+2*i)) (aO p (ofK p 3 p.length)) (((fl.drop p.length).drop (ofK p 1 p.length).length).take (ofK p 3 p.length).length)=0:=qe fun x hx=>by unfold aO at hx;obtain⟨j,_,rfl⟩:=wK.1 hx;simp;omega
 have d1:sIf (fun x=>decide (x.f=2+2*i)) (aR r) (rds p r fl)=0:=qe fun x hx=>by unfold aR at hx;obtain⟨y,_,rfl⟩:=wK.1 hx;simp;omega
 have d2:sIf (fun x=>decide (x.t=2+2*i)) (aR r) (rds p r fl)=sRd (fun x=>decide (x.t=i)) r (rds p r fl):=DX fun x hx=>by
  obtain⟨j,hj,rfl⟩:=qX hx;have:=h.rf j hj;by_cases e:(rdt r j).t=(i:Int)
  . rw[decide_eq_true e];simp;omega
  . rw[decide_eq_false e];simp;omega
 rw[a1,a2,b1,b2,c1,c2,d1,d2]at hz;omega
structure Al where
 g:Int
 o:Int
 n:Int
def alt (l:List Al)(i:Nat):Al:=l.getD i ⟨0,0,0⟩
def sm (g o:Int)(a:Al):Bool:=decide (a.g=g)&&decide (a.o=o)
def fnd (l:List Al)(g o:Int):Option Nat:=l.findIdx? (sm g o)
def iE (l:List Al)(g o v:Int):List Al :=
 match fnd l g o with
 | some k=>l.set k ⟨g,o,(alt l k).n+v⟩
 | none=>l++[⟨g,o,v⟩]
def sO (o:Int):List Al->Int
 | []=>0
 | a::l=>(if a.o=o then a.n else 0)+sO o l
def ND :List Al->Prop
 | []=>True
 | a::l=>0<=a.n/\(∀b∈l,sm a.g a.o b=false)/\ND l
theorem hZ {g o:Int}{a:Al}:sm g o a=true↔a.g=g/\a.o=o:=by simp[sm]
theorem BX (o:Int):∀(l m:List Al),sO o (l++m)=sO o l+sO o m
 | [],m=>by simp[sO]
 | a::l,m=>by rw[wO,sO,sO,BX o l m];omega
theorem tI (a:Al)(l:List Al)(g o:Int):fnd (a::l) g o=if sm g o a=true then some 0 else(fnd l g o).map (· +1):=by unfold fnd;rw[List.findIdx?_cons]
theorem iL {a:Al}{l:List Al}{g o v:Int}(h:sm g o a=true):iE (a::l) g o v=⟨g,o,a.n+v⟩::l:=by unfold iE;rw[tI,if_pos h];rfl
theorem iM {a:Al}{l:List Al}{g o v:Int}(h:sm g o a=false):iE (a::l) g o v=a::iE l g o v:=by
 unfold iE;rw[tI,if_neg (by rw[h];decide)]
 cases fnd l g o with
 | none=>rfl
 | some k=>simp[alt]
theorem HH (o':Int):∀(l:List Al) (g o v:Int),sO o' (iE l g o v)=sO o' l+if o=o' then v else 0
 | [],g,o,v=>by simp[iE,fnd,sO]
 | a::l,g,o,v=>by
   cases h:sm g o a with
   | true =>have:=(hZ.1 h).2;rw[iL h,sO,sO,this];simp only;split<;>omega
   | false=>rw[iM h,sO,sO,HH o' l g o v];omega
theorem sq :∀{l:List Al} {g o v:Int} {b:Al},b∈iE l g o v->(b.g=g/\b.o=o)\/b∈l
 | [],g,o,v,b,h=>by simp[iE,fnd]at h;subst h;exact .inl ⟨rfl,rfl⟩
 | a::l,g,o,v,b,h=>by
   cases hs:sm g o a with
   | true =>
     rw[iL hs,wM]at h;rcases h with rfl|h
     . exact .inl ⟨rfl,rfl⟩
     . exact .inr (by simp[h])
   | false =>
     rw[iM hs,wM]at h;rcases h with rfl|h
     . exact .inr (by simp)
     . rcases sq h with h1|h1
       . exact .inl h1
       . exact .inr (by simp[h1])
theorem IZ :∀{l:List Al} {g o v:Int},ND l->0<=v->ND (iE l g o v)
 | [],g,o,v,_,hv=>by simp[iE,fnd,ND,hv]
 | a::l,g,o,v,h,hv=>by
   obtain⟨h1,h2,h3⟩:=h
   cases hs:sm g o a with
   | true =>
     obtain⟨e1,e2⟩:=hZ.1 hs;rw[iL hs];refine⟨by show 0<=a.n+v;omega,fun b hb=> ?_,h3⟩;show sm g o b=false;have:=h2 b hb
     rwa [e1,e2]at this
   | false =>
     rw[iM hs];refine⟨h1,fun b hb=> ?_,IZ h3 hv⟩;rcases sq hb with ⟨e1,e2⟩|hb
     . cases hq:sm a.g a.o b with
       | false=>rfl
       | true =>obtain⟨e3,e4⟩:=hZ.1 hq;have:sm g o a=true:=hZ.2 ⟨by rw[<-e3,e1],by rw[<-e4,e2]⟩;rw[this]at hs;cases hs
     . exact h2 b hb
def alo (p:List Sp)(r:List Rd)(x:List Int):Nat->List Al
 | 0=>[]
 | i+1=>if(spt p (rdt r i).f.toNat).kd=2/\(spt p (rdt r i).t.toNat).kd=3 then iE (alo p r x i) (spt p (rdt r i).f.toNat).nu (spt p (rdt r i).t.toNat).nu (nth x i)else alo p r x i
theorem Dt {p:List Sp}{r:List Rd}{x:List Int}(hx:∀i,0<=nth x i):∀i,ND (alo p r x i)
 | 0=>trivial
 | i+1=>by
   rw[alo];split
   . exact IZ (Dt hx i) (hx i)
   . exact Dt hx i
def sTo (r:List Rd)(x:List Int)(t:Nat):Nat->Int
 | 0=>0
 | i+1=>sTo r x t i+if(rdt r i).t=t then nth x i else 0
theorem LH {p:List Sp}{r:List Rd}(h:POk p r){x:List Int}(hx:∀i,0<=nth x i){t:Nat}(ht:t<p.length)(hk:(spt p t).kd=3):∀{i:Nat},i<=r.length->sO (spt p t).nu (alo p r x i)<=sTo r x t i
 | 0,_=>wB _
 | i+1,hi=>by
   have ih:=LH h hx ht hk (show i<=r.length by omega);have h0:=hx i;have hr:=h.rf i (by omega);rw[alo,sTo];by_cases hc:(spt p (rdt r i).f.toNat).kd=2/\(spt p (rdt r i).t.toNat).kd=3
   . rw[if_pos hc,HH];by_cases he:(spt p (rdt r i).t.toNat).nu=(spt p t).nu
     . have hti:(rdt r i).t.toNat=t:=by
        rcases Nat.lt_trichotomy (rdt r i).t.toNat t with h1|h1|h1
        . exact absurd ⟨by rw[hc.2,hk],he⟩ (h.tw _ _ h1 ht)
        . exact h1
        . exact absurd ⟨by rw[hc.2,hk],he.symm⟩ (h.tw _ _ h1 (by omega))
       rw[if_pos he,if_pos (by omega)];omega
     . rw[if_neg he];split<;>omega
   . rw[if_neg hc];split<;>omega
theorem MU (r:List Rd)(x:List Int)(t:Nat)(hl:x.length=r.length):sTo r x t r.length=sRd (fun y=>decide (y.t=t)) r x:=by
 have key:∀(n:Nat) {r:List Rd} {x:List Int},r.length=n->x.length=n->sTo r x t n=sRd (fun y=>decide (y.t=t)) r x:=by
  have app:∀(Q:Rd->Bool) (r:List Rd) (x:List Int) (a:Rd) (b:Int),r.length=x.length->sRd Q (r++[a]) (x++[b])=sRd Q r x+if Q a then b else 0:=by
   intro Q r
   induction r with
   | nil=>intro x a b h;obtain rfl:=wS.1 h.symm;simp[sRd]
   | cons c r ih =>
     intro x a b h
     cases x with
     | nil=>simp at h
     | cons d x=>rw[wO,wO,sRd,sRd,ih x a b (by simpa using h)];omega
  have ext:∀{r r':List Rd} {x x':List Int} {m:Nat},(∀i,i<m->rdt r i=rdt r' i/\nth x i=nth x' i)->sTo r x t m=sTo r' x' t m:=by
   intro r r' x x' m
   induction m with
   | zero=>intro _;rfl
   | succ m ih=>intro h;rw[sTo,sTo,ih fun i hi=>h i (by omega),(h m (by omega)).1,(h m (by omega)).2]
  intro n
  induction n with
  | zero=>intro r x h h';obtain rfl:=wS.1 h;simp[sTo,sRd]
  | succ n ih =>
    intro r0 x0 h h';obtain⟨r,a,rfl⟩:∃g y,r0=g++[y]:=by
     have hne:r0≠[]:=fun e=>by rw[e]at h;simp at h
     exact⟨r0.dropLast,r0.getLast hne,(wJ hne).symm⟩
    obtain⟨x,b,rfl⟩:∃g y,x0=g++[y]:=by
     have hne:x0≠[]:=fun e=>by rw[e]at h';simp at h'
     exact⟨x0.dropLast,x0.getLast hne,(wJ hne).symm⟩
    have hl:r.length=n:=by simpa using h
    have hl':x.length=n:=by simpa using h'
    rw[sTo,app _ _ _ _ _ (hl.trans hl'.symm)];have e1:sTo (r++[a]) (x++[b]) t n=sTo r x t n:=ext fun i hi=>⟨by unfold rdt;rw[wD,wD,wG (by omega)],by unfold nth;rw[wD,wD,wG (by omega)]⟩
    have e2:rdt (r++[a]) n=a:=by unfold rdt;rw[<-hl];simp
    have e3:nth (x++[b]) n=b:=by unfold nth;rw[<-hl'];simp
    rw[e1,ih hl hl',e2,e3];simp only[decide_eq_true_eq]
 exact key _ rfl hl
theorem Um {p:List Sp}{r:List Rd}(h:POk p r){fl:List Int}(hb:FB (net p r) fl)(hz:∀v,v≠0->v≠1->giv (aJ p r) fl v (aJ p r).length=0){t:Nat}(ht:t<p.length)(hk:(spt p t).kd=3) :
  sO (spt p t).nu (alo p r (rds p r fl) r.length)<=(spt p t).cp:=by
 have hnn:∀i,0<=nth (rds p r fl) i:=fun i=>by
  by_cases hi:i<(rds p r fl).length
  . have hm:nth (rds p r fl) i∈fl:=by
     unfold nth;rw[wD,wF hi];exact List.mem_of_mem_drop (wY hi)
    exact VR hb _ hm
  . unfold nth;rw[wD,List.getElem?_eq_none (by omega)];exact wB _
 have h1:=LH h hnn ht hk (Nat.le_refl r.length);rw[MU r _ t (D3 hb.l)]at h1;have h2:=Fp h hb ht hk (hz _ (by omega) (by omega));have h3:=(hb.b t (by show t<(aJ p r).length;rw[bU];omega)).2;have h4:(art (net p r).a t).c=(spt p t).cp:=by rw[show(net p r).a=aJ p r from rfl,lL ht]
 omega
theorem Pm :∀{l:List Al},ND l->∀a∈l,0<=a.n
 | [],_,a,h=>by cases h
 | b::l,hn,a,h=>by
   rcases wM.1 h with rfl|h
   . exact hn.1
   . exact Pm hn.2.2 a h
theorem AY {l:List Al}{g o:Int}{i:Nat}(h:fnd l g o=some i):i<l.length/\sm g o (alt l i)=true:=by unfold fnd at h;obtain⟨h1,h2,_⟩:=List.findIdx?_eq_some_iff_getElem.1 h;refine⟨h1,?_⟩;unfold alt;rw[wD,wF h1];exact h2
theorem zi {l:List Al}{i:Nat}(h:i<l.length):alt l i∈l:=by unfold alt;rw[wD,wF h];exact wY h
theorem DT (a b:Al):sm a.g a.o b=sm b.g b.o a:=by unfold sm;rw[show decide (b.g=a.g)=decide (a.g=b.g)from by simp[eq_comm],show decide (b.o=a.o)=decide (a.o=b.o)from by simp[eq_comm]]
end Go.Fl
namespace Go.Proofs.S51
open Go Go.Ev Go.Proofs Go.Fl
variable {gl :Gl} {n:Nat}
abbrev i64 (n:Int):AV:=.int .i64 n
def ns (l:List Int):List AV:=l.map i64
theorem ae (l:List Int):(ns l).length=l.length:=by simp[ns]
theorem bc {l:List Int}{i:Nat}(h:i<l.length):(ns l)[i]? =some (i64 (nth l i)):=by simp[ns,nth,h]
theorem yc (l:List Int)(x:Int):ns (l++[x])=ns l++[i64 x]:=by simp[ns]
theorem fB (l:List Int)(i:Nat)(x:Int):ns (l.set i x)=(ns l).set i (i64 x):=by simp[ns]
theorem yb (n:Nat)(x:Int):List.replicate n (i64 x)=ns (List.replicate n x):=by simp[ns]
theorem bH :∀(l:List Int),dN (ns l)=true
 | []=>rfl
 | x::l=>by have:=bH l;rw[ns,List.map_cons,dN,<-ns,this];rfl
abbrev aV (a:Ar):AV:=.agg [i64 a.f,i64 a.t,i64 a.c,i64 a.k]
def rs (l:List Ar):List AV:=l.map aV
theorem ak (l:List Ar):(rs l).length=l.length:=by simp[rs]
theorem dY {l:List Ar}{i:Nat}(h:i<l.length):(rs l)[i]? =some (.agg [i64 (art l i).f,i64 (art l i).t,i64 (art l i).c,i64 (art l i).k]):=by simp[rs,art,h]
theorem xL (l:List Ar)(a:Ar):rs (l++[a])=rs l++[.agg [i64 a.f,i64 a.t,i64 a.c,i64 a.k]]:=by simp[rs]
def us (l:List Nat):List AV:=l.map fun(i:Nat)=>i64 (i:Int)
theorem aj (l:List Nat):(us l).length=l.length:=by simp[us]
theorem dy {l:List Nat}{i k:Nat}(h:l[i]? =some k):(us l)[i]? =some (i64 (k:Int)):=by simp[us,h]
theorem dU (l:List Nat)(x:Nat):us (l++[x])=us l++[i64 (x:Int)]:=by simp[us]
theorem fR (l:List Nat):(us l).isEmpty=l.isEmpty:=by cases l<;>rfl
def adj (a:List Ar):Nat->Nat->List Nat
 | 0,_=>[]
 | k+1,v=>if(art a k).f=v\/(art a k).t=v then adj a k v++[k]else adj a k v
theorem zl {a:List Ar}{v i:Nat}:∀{k:Nat},i∈adj a k v↔i<k/\((art a i).f=v\/(art a i).t=v)
 | 0=>by simp[adj]
 | k+1=>by
   rw[adj];split
   . rename_i h;rw[wN,zl,wH];constructor
     . rintro (⟨h1,h2⟩|rfl)
       . exact⟨by omega,h2⟩
       . exact⟨by omega,h⟩
     . rintro ⟨h1,h2⟩;by_cases e:i=k
       . exact .inr e
       . exact .inl ⟨by omega,h2⟩
   . rename_i h;rw[zl];constructor
     . rintro ⟨h1,h2⟩;exact⟨by omega,h2⟩
     . rintro ⟨h1,h2⟩;by_cases e:i=k
       . rw[e]at h2;exact absurd h2 h
       . exact⟨by omega,h2⟩
theorem oX (a:List Ar)(v:Nat):∀k,(adj a k v).length<=k
 | 0=>by simp[adj]
 | k+1=>by
   have:=oX a v k;rw[adj];split
   . rw[wE,List.length_singleton];omega
   . omega
theorem oY (g:Nt):Adj g (adj g.a g.a.length):=fun v _ i=>by rw[zl];rfl
def dD (a:List Ar)(k N:Nat):List (List AV):=(List.range N).map fun v=>us (adj a k v)
theorem bK (a:List Ar)(k N:Nat):(dD a k N).length=N:=by simp[dD]
theorem gw {a:List Ar}{k N v:Nat}(h:v<N):(dD a k N)[v]? =some (us (adj a k v)):=by simp[dD,h]
abbrev yA3 :Sh:=.st [.sc,.sc,.sc]
abbrev yA4 :Sh:=.st [.sc,.sc,.sc,.sc]
abbrev yA5 :Sh:=.st [.sc,.sc,.sc,.sc,.sc]
abbrev yA8 :Sh:=.st [.sc,.sc,.sc,.sc,.sc,.st [.sc,.sc],.sc,.ar 16 .sc]
abbrev zA2 :AV:=.agg [.int .i64 0,.lst true .sc []]
abbrev zA5 :AV:=.agg [.int .i64 0,.int .i64 0,.lst true .sc [],.lst true .sc [],.lst true .sc []]
abbrev sNt :Sh:=.st [.sc,.sc]
abbrev sNw :Sh:=.st [.st [.sc,.sc],.sc,.sc,.sc]
end Go.Proofs.S51
