/-
  Credits are dealt as a plan allots them. No condition.
-/
import Derived.Test.YtaloneiaejhopaaGreatDoorW51G1x3
import Derived.Test.YtaloneiaejhopaaGreatDoorW51G3x3
import Derived.Test.YtaloneiaejhopaaGreatDoorW51G7x3
import Derived.Test.YtaloneiaejhopaaGreatDoorW51G8x3
set_option linter.all false
open List renaming getElem?_eq_getElem->wB,getElem?_eq_some_iff->wC,take_length->wD,ext_getElem->wE,length_append->wF,getD_eq_getElem?_getD->wG,length_set->wH,pairwise_iff_getElem->wJ,length_filter_le->wK,mem_of_getElem?->wM,getElem_of_mem->wN,getElem_range->wO,length_take->wP,getElem_set->wQ,getElem_map->wR,append_nil->wS,range->wT
open Classical renaming byContradiction->wU
open Nat renaming reduceEqDiff->wW,exists_eq_add_of_le'->wX
open Int renaming mul_le_mul_of_nonneg_right->wY,add_zero->wZ
namespace Go.Proofs.S51
open Go Go.Ev Go.Proofs Go.Fl
variable {gl :Gl} {n:Nat}
abbrev yAp :Sh:=.st [.sc,.sc,.st [.sc,.sc]]
abbrev waV (W:Int)(a:Al)(c:Int):AV:=.agg [i64 a.g,i64 a.o,wa1 W a.n c]
def wls (W:Int)(C:Int->Int->Int)(l:List Al):List AV:=l.map fun a=>waV W a (C a.g a.o)
theorem cx (W:Int)(C:Int->Int->Int)(l:List Al):(wls W C l).length=l.length:=by simp[wls]
theorem L8 (W:Int)(C:Int->Int->Int)(l m:List Al):wls W C (l++m)=wls W C l++wls W C m:=by simp[wls]
abbrev C0 :Int->Int->Int:=fun _ _=>0
def bkV (c:Int)(l:List C.Q4):AV:=C.bank c 1000 l.isEmpty (if l.isEmpty=true then .sc else C.sR) l
theorem OI (l:List C.Q4):C.Shp l (if l.isEmpty=true then .sc else C.sR):=by
 cases l with
 | nil=>exact .inl rfl
 | cons a l=>exact .inr rfl
theorem Ub {c:Int}{l:List C.Q4}{m:Nat}(h:l.length=m+1):C.bank c 1000 false C.sR l=bkV c l:=by
 cases l with
 | nil=>simp at h
 | cons a l=>rfl
noncomputable def L7p:MC:=wq 0 m7
noncomputable def L7q:MC:=wq 2 m7
section
variable (q :PF) (p:List Sp) (r:List Rd) (w:Fq) (fl:List Int) (W:Int)
def S7p (L:List Al)(i:Nat):St :=
 ⟨[.set 23 (i64 (i:Int)),.set 22 (i64 (p.length:Int)),.set 21 (.lst q.b q.s (ps p)),.set 8 (.sl 5008 [] 0 L.length),.set 4 (.ptr 4 []),.set 3 (.ptr 3 []),.set 2 (i64 W)],
   [(4,.fix yA5 (fqV w fl)),(3,.fix sPl (plV q p r)),(5008,.grow yAp (wls W C0 L))]⟩
def S7q (al:List Al)(i:Nat)(L:List Al)(l:List C.Q4)(j:Nat):St :=
 ⟨[.set 47 (i64 (j:Int)),.set 46 (i64 (al.length:Int)),.set 45 (.sl 45 [] 0 al.length),.set 23 (i64 (i:Int)),.set 22 (i64 (p.length:Int)),.set 21 (.lst q.b q.s (ps p)),.set 11 (.ptr 11 []),.set 10 (.ptr 10 []),.set 8 (.sl 5008 [] 0 L.length),.set 4 (.ptr 4 []),.set 3 (.ptr 3 []),.set 2 (i64 W)],
   [(45,.grow yA3 (als al)),(11,.fix yA3 (bkV (spt p i).cp l)),(10,.fix yA3 (sV (spt p i))),(4,.fix yA5 (fqV w fl)),(3,.fix sPl (plV q p r)),(5008,.grow yAp (wls W C0 L))]⟩
end
abbrev fl7 (p:List Sp)(i:Nat)(l:List Al):List Al:=l.filter fun a=>decide (a.o=(spt p i).nu)&&decide (a.n≠0)
theorem rC {al:List Al}{j:Nat}(h:j<al.length):al.take (j+1)=al.take j++[alt al j]:=by rw[List.take_add_one,wB h];unfold alt;rw[wG,wB h];rfl
section
variable {d :Nat} {q:PF} {p:List Sp} {r:List Rd} {w:Fq} {fl:List Int} {W:Int} {al L:List Al} {i j:Nat} {l:List C.Q4} (hal:al.length<=2000) (hj:j<al.length) (hL:L.length<=100000) (hW:0<=W/\W<=1000000)
include hal hj hL hW
theorem Rm (hs:¬((alt al j).o=(spt p i).nu/\(alt al j).n≠0)):aK K7q (evC gl (call gl tab (d+8)) L7q (S7q q p r w fl W al i L l j))=some (S7q q p r w fl W al i L l (j+1)):=by
 have x1:=Ds hj;have e1:=fe al;by_cases e:(alt al j).o=(spt p i).nu
 . have e0:(alt al j).n=0:=wU fun h=>hs ⟨e,h⟩
   have b1:((alt al j).o != (spt p i).nu)=false:=by simp[e]
   have b2:((alt al j).n==0)=true:=by simp[e0]
   simp(disch:=apply zq;omega) only[go_sem,simprocAttr,↓wW,xx,L7q,L7p,S7q,x1,e1,b1,b2,bkV,C.bank,cx]
 . have b1:((alt al j).o != (spt p i).nu)=true:=by simpa using e
   simp(disch:=apply zq;omega) only[go_sem,simprocAttr,↓wW,xx,L7q,L7p,S7q,x1,e1,b1,bkV,C.bank,cx]
theorem QF {l':List C.Q4}(hs:(alt al j).o=(spt p i).nu)(hn:1<=(alt al j).n/\(alt al j).n<=1073741824)(hl:l'.length=l.length+1)
  (c18:call gl tab (d+8) 18 [bkV (spt p i).cp l,i64 W,i64 (alt al j).g,i64 (alt al j).n] []=some (.tup [bkV (spt p i).cp l',i64 0],[],[]))
  (c19:call gl tab (d+8) 19 [bkV (spt p i).cp l',i64 W,i64 (alt al j).g] []=some (i64 (alt al j).n,[],[])) :
  aK K7q (evC gl (call gl tab (d+8)) L7q (S7q q p r w fl W al i L l j))=some (S7q q p r w fl W al i (L++[alt al j]) l' (j+1)):=by
 have x1:=Ds hj;have e1:=fe al;have b1:((alt al j).o != (spt p i).nu)=false:=by simp[hs]
 have b2:((alt al j).n==0)=false:=by rw[beq_eq_false_iff_ne];omega
 have c25:=@No gl (d+8) (by omega);have c26:=@M3 gl (d+8) W (alt al j).n 0 hW (by omega) (by omega) (by omega);have e2:wls W C0 (L++[alt al j])=wls W C0 L++[.agg [i64 (alt al j).g,i64 (spt p i).nu,wa1 W (alt al j).n 0]]:=by rw[L8,<-hs];rfl
 have l1:L.length+1<=LIM:=by unfold LIM;omega
 have wl:=cx W C0 L;have tk:∀(u:List AV) (v:AV),u.length=L.length->(u++[v]).take (L.length+1)=u++[v]:=fun u v h=>List.take_of_length_le (by rw[wF,h];simp)
 have tk:=fun v=>tk (wls W C0 L) v wl
 unfold S7q;rw[e2,wF,List.length_singleton];generalize wls W C0 L=WL at *
 simp only[bkV,C.bank]at c18 c19 ⊢;simp(disch:=apply zq;omega) only[go_sem,simprocAttr,↓wW,xx,L7q,L7p,x1,e1,b1,b2,c18,c19,c25,c26,l1,tk,wl]
end
structure AlOk (p:List Sp)(al:List Al):Prop where
 l:al.length<=2000
 nd:ND al
 g:∀a∈al,1<=a.g/\a.g<=1073741824
 le:∀k,k<p.length->(spt p k).kd=3->sO (spt p k).nu al<=(spt p k).cp
theorem HI (o:Int):∀{l:List Al},(∀a∈l,0<=a.n)->0<=sO o l
 | [],_=>Int.le_refl _
 | a::l,h=>by
   have:=HI o (l:=l) fun b hb=>h b (by simp[hb])
   have:=h a (by simp);rw[sO];split<;>omega
section
variable {d :Nat} {q:PF} {p:List Sp} {r:List Rd} {w:Fq} {fl:List Int} {W:Int} {al L:List Al} {i:Nat} (ha:AlOk p al) (hL:L.length<=50000) (hW:0<=W/\W<=1000000) (hi:i<p.length) (hk:(spt p i).kd=3) (hc:(spt p i).cp<=1073741824)
include ha hL hW hi hk hc
theorem R6 :∃l,∀st,bT K7q st=some (S7q q p r w fl W al i L [] 0)->fG (evC gl (call gl tab (d+8)) L7q) K7q LF st=evC gl (call gl tab (d+8)) L7q (S7q q p r w fl W al i (L++fo p al i) l al.length):=by
 have hal:=ha.l;have hnn:=Pm ha.nd;have tot:∀j,j<al.length->sO (spt p i).nu (al.take (j+1))=sO (spt p i).nu (al.take j)+(if(alt al j).o=(spt p i).nu then(alt al j).n else 0):=fun j hj=>by rw[rC hj,BX];simp[sO]
 have le:∀j,sO (spt p i).nu (al.take j)<=(spt p i).cp:=fun j=>by
  have h1:=BX (spt p i).nu (al.take j) (al.drop j);rw[List.take_append_drop]at h1;have:=HI (spt p i).nu (l:=al.drop j) fun a h=>hnn a (List.mem_of_mem_drop h)
  have:=ha.le i hi hk;omega
 have flen:∀j,(fl7 p i (al.take j)).length<=2000:=fun j=>by have h1:(fl7 p i (al.take j)).length<=(al.take j).length:=wK ..;rw[wP]at h1;omega
 obtain⟨⟨j,l⟩,_,hf,hit⟩:=fF (f:=evC gl (call gl tab (d+8)) L7q) (ks:=K7q) (fun a:Nat×List C.Q4=>S7q q p r w fl W al i (L++fl7 p i (al.take a.1)) a.2 a.1)
  (fun a=>a.1<=al.length/\C.BI W a.2 (sO (spt p i).nu (al.take a.1))/\a.2.length<=a.1/\∀y∈a.2,∃x∈al.take a.1,x.o=(spt p i).nu/\x.g=y.g) (fun a=>a.1=al.length) (fun a=>al.length-a.1) (a0:=(0,[]))
  (by unfold LF;simp only;omega) ⟨Nat.zero_le _,C.bi_0 W,Nat.le_refl _,fun y hy=>(by cases hy)⟩ fun a hI=>by
    obtain⟨j,l⟩:=a;obtain⟨hj,hb,hl,hy⟩:=hI;simp only at hj hb hl hy ⊢;have hfl:=flen j;by_cases e:j=al.length
    . left;subst e;exact⟨rfl,by simp(disch:=apply zq;omega) only[go_sem,simprocAttr,↓wW,xx,L7q,L7p,S7q]⟩
    . right;have hj:j<al.length:=by omega
      have ht:=tot j hj;have hle:=le (j+1);have hLl:(L++fl7 p i (al.take j)).length<=100000:=by rw[wF];omega
      have hft:fl7 p i (al.take (j+1))=fl7 p i (al.take j)++fl7 p i [alt al j]:=by rw[rC hj];exact List.filter_append ..
      have hyy:∀y∈l,∃x∈al.take (j+1),x.o=(spt p i).nu/\x.g=y.g:=fun y h=>by obtain⟨x,h1,h2⟩:=hy y h;exact⟨x,by rw[rC hj];simp[h1],h2⟩
      by_cases hs:(alt al j).o=(spt p i).nu/\(alt al j).n≠0
      . have hm:=zi hj;have hn:=hnn _ hm;have hg:=ha.g _ hm;rw[if_pos hs.1]at ht;have h0:=HI (spt p i).nu (l:=al.take j) fun a h=>hnn a (List.mem_of_mem_take h)
        have hnew:∀y∈l,y.g≠(alt al j).g:=fun y h e=>by
         obtain⟨x,h1,h2,h3⟩:=hy y h;obtain⟨t,ht,rfl⟩:=wN h1;rw[wP]at ht;have hp:=wJ.1 (IY ha.nd) t j (by omega) hj (by omega);have e1:al[j]=alt al j:=by unfold alt;rw[wG,wB hj];rfl
         rw[List.getElem_take]at h2 h3;rw[e1]at hp;have:sm al[t].g al[t].o (alt al j)=true:=hZ.2 ⟨by rw[h3,e],by rw[h2,hs.1]⟩;unfold Df2 at hp;rw[this]at hp;cases hp
        obtain⟨l',b1,b2,b3,c18,c19⟩:=@C.deal_bi gl (d+8) (by omega) W (spt p i).cp _ l hb (by omega) (by omega) (by omega) l.isEmpty _ (OI l) (alt al j).g (alt al j).n hg (by omega) (by omega) hnew;rw[Ub b2]at c18 c19;have hst:=@QF gl d q p r w fl W al (L++fl7 p i (al.take j)) i j l hal hj hLl hW l' hs.1 (by omega) b2 c18 c19;refine⟨(j+1,l'),⟨hj,by simp only;rw[ht];exact b1,by simp only;omega,fun y h=> ?_⟩,by simp only;omega,?_⟩
        . rcases b3 y h with h|h
          . exact hyy y h
          . exact⟨alt al j,by simp only;rw[rC hj];simp,hs.1,h.symm⟩
        . have:fl7 p i [alt al j]=[alt al j]:=by unfold fl7;rw[List.filter_cons_of_pos (by simp[hs])];rfl
          simp only;rw[hft,this,<-List.append_assoc];exact hst
      . have hst:=@Rm gl d q p r w fl W al (L++fl7 p i (al.take j)) i j l hal hj hLl hW hs
        have e3:sO (spt p i).nu (al.take (j+1))=sO (spt p i).nu (al.take j):=by
         rw[ht];by_cases e:(alt al j).o=(spt p i).nu
         . have:(alt al j).n=0:=wU fun h=>hs ⟨e,h⟩
           rw[if_pos e];omega
         . rw[if_neg e];omega
        refine⟨(j+1,l),⟨hj,by simp only;rw[e3];exact hb,by simp only;omega,hyy⟩,by simp only;omega,?_⟩;have:fl7 p i [alt al j]=[]:=by unfold fl7;rw[List.filter_cons_of_neg];rfl;simpa using hs
        simp only;rw[hft,this,wS];exact hst
 simp only at hf;subst hf;simp only[wD,List.take_zero,List.filter_nil,wS]at hit;exact⟨l,hit⟩
end
section
variable {d :Nat} {q:PF} {p:List Sp} {r:List Rd} {w:Fq} {fl:List Int} {W:Int} (hq:PFOk q p r) (hk:PK p r) (hp:p.length<=20) (hl:fl.length=(aJ p r).length) (hx:∀i,0<=nth (rds p r fl) i/\nth (rds p r fl) i<=1073741824) (ha:AlOk p (alo p r (rds p r fl) r.length)) (hW:0<=W/\W<=1000000)
include hq hk hp hl hx ha hW
theorem xw (al:List Al):∀i,(wlt p al i).length<=i*al.length
 | 0=>by simp[wlt]
 | i+1=>by
   have ih:=xw al i;have h1:(fo p al i).length<=al.length:=wK ..;have:(i+1)*al.length=i*al.length+al.length:=by rw[Nat.add_mul,Nat.one_mul]
   rw[wlt];split
   . rw[wF];omega
   . omega
theorem QG {i:Nat}(hi:i<p.length):aK K7p (evC gl (call gl tab (d+8)) L7p (S7p q p r w fl W (wlt p (alo p r (rds p r fl) r.length) i) i))=some (S7p q p r w fl W (wlt p (alo p r (rds p r fl) r.length) (i+1)) (i+1)):=by
 have hs:q.s=sSp:=hq.s.resolve_left fun h=>by rw[h]at hi;simp at hi
 have x1:=da hi;have c24:=@GX gl (d+8) (by omega) q p r hq hk w fl hl hx;have hcp:=hk.ok.cp i hi;have hL:=xw hq hk hp hl hx ha hW (alo p r (rds p r fl) r.length) i;have hal:=ha.l;have hL2:i*(alo p r (rds p r fl) r.length).length<=20*2000:=Nat.mul_le_mul (by omega) (by omega);have e:wlt p (alo p r (rds p r fl) r.length) (i+1)=if(spt p i).kd=3/\(spt p i).cp≠0 then wlt p (alo p r (rds p r fl) r.length) i++fo p (alo p r (rds p r fl) r.length) i else wlt p (alo p r (rds p r fl) r.length) i:=rfl;rw[e];clear e;generalize hA:alo p r (rds p r fl) r.length=al at *
 generalize wlt p al i=L at *
 have eal:=fe al;obtain⟨qb,qs,qc,qt⟩:=q;simp only at hs;subst hs;by_cases k1:(spt p i).kd=3
 case neg =>
  have b1:((spt p i).kd != 3)=true:=by simpa using k1
  rw[if_neg fun h=>k1 h.1];simp(disch:=apply zq;omega) only[go_sem,simprocAttr,↓wW,xx,L7p,S7p,ah,x1,b1,cx]
 have b1:((spt p i).kd != 3)=false:=by simp[k1]
 by_cases k2:(spt p i).cp=0
 case pos =>
  have b2:((spt p i).cp==0)=true:=by simp[k2]
  rw[if_neg fun h=>h.2 k2];simp(disch:=apply zq;omega) only[go_sem,simprocAttr,↓wW,xx,L7p,S7p,ah,x1,b1,b2,cx]
 have b2:((spt p i).cp==0)=false:=by simpa using k2
 rw[if_pos ⟨k1,k2⟩];obtain⟨l,hit⟩:=@R6 gl d ⟨qb,sSp,qc,qt⟩ p r w fl W al L i ha (by omega) hW hi k1 hcp.2;have c17:=@C.newBank_at gl (d+8) (by omega) (spt p i).cp 1000;have hv:C.VB (spt p i).cp 1000 []:=C.bi_vb (C.bi_0 W) (by omega) hcp hcp.1 (by simp);rw[if_pos hv,if_pos hv]at c17;simp only[L7q,L7p,wq,K7q]at hit;simp only[C.bank]at c17;simp(disch:=apply zq;omega) only[go_sem,simprocAttr,↓wW,xx,L7p,S7p,ah,x1,b1,b2,c17,c24];rw[hit _ (by simp(disch:=apply zq;omega) only[go_sem,simprocAttr,↓wW,xx,S7q,bkV,C.bank,cx,eal])];simp(disch:=apply zq;omega) only[go_sem,simprocAttr,↓wW,xx,S7q,cx,eal]
theorem Jr (h:9<=n):call gl tab n 7 [plV q p r,fqV w fl,i64 W] [] =
  some (.tup [.sl 20000 [] 0 (wlt p (alo p r (rds p r fl) r.length) p.length).length,.bool true],[],[.grow yAp (wls W C0 (wlt p (alo p r (rds p r fl) r.length) p.length))]):=by
 obtain⟨d,rfl⟩:=wX h;have hs:=fun i hi=>@QG gl d q p r w fl W hq hk hp hl hx ha hW i hi
 simp only[L7p,wq,K7p]at hs;have hb:=cx W C0 (wlt p (alo p r (rds p r fl) r.length) p.length);rw[bf (fd:=fd7) rfl];simp(disch:=apply zq;omega) only[go_sem,simprocAttr,↓wW,xx,fd7,m7,ah];rw[aE (fun i=>S7p q p r w fl W (wlt p (alo p r (rds p r fl) r.length) i) i) p.length (by unfold LF;omega)]
 . simp(disch:=apply zq;omega) only[go_sem,simprocAttr,↓wW,xx,S7p,hb]
 . simp(disch:=apply zq;omega) only[go_sem,simprocAttr,↓wW,xx,S7p,wlt,wls,List.map_nil,List.length_nil]
 . exact hs
 . simp(disch:=apply zq;omega) only[go_sem,simprocAttr,↓wW,xx,S7p]
end
noncomputable def L12:MC:=wq 0 m12
def S12 (W g o:Int)(C:Int->Int->Int)(L:List Al)(i:Nat):St :=
 ⟨[.set 14 (i64 (i:Int)),.set 13 (i64 (L.length:Int)),.set 3 (i64 W),.set 2 (i64 o),.set 1 (i64 g),.set 0 (.sl 100000 [] 0 L.length)],[(100000,.grow yAp (wls W C L))]⟩
theorem pc {W:Int}{C:Int->Int->Int}{L:List Al}{i:Nat}{a:Al}(h:L[i]? =some a):(wls W C L)[i]? =some (waV W a (C a.g a.o)):=by simp[wls,h]
section
variable {d :Nat} {W:Int} {C:Int->Int->Int} {L:List Al} {j:Nat} {a:Al} (hL:L.length<=100000) (hW:0<=W/\W<=1000000) (hj:L[j]? =some a) (hm:∀i b,i<j->L[i]? =some b->sm a.g a.o b=false) (hc:0<=C a.g a.o/\C a.g a.o<a.n) (hn:a.n<=1073741824)
include hL hW hj hm hc hn
theorem Q8 {i:Nat}(hi:i<j):aK K12 (evC gl (call gl tab d) L12 (S12 W a.g a.o C L i))=some (S12 W a.g a.o C L (i+1)):=by
 have hjl:=(wC.1 hj).1;obtain⟨b,hb⟩:∃b,L[i]? =some b:=⟨_,wB (show i<L.length by omega)⟩;have x1:=pc (W:=W) (C:=C) hb;have hs:=hm i b hi hb;have wl:=cx W C L;unfold S12;generalize wls W C L=WL at *
 by_cases e:b.g=a.g
 . have e2:b.o≠a.o:=fun e2=>by
    have:=hZ.2 ⟨e,e2⟩;rw[hs]at this;cases this
   have b1:(b.g==a.g)=true:=by simp[e]
   have b2:(b.o==a.o)=false:=by simpa using e2
   simp(disch:=apply zq;omega) only[go_sem,simprocAttr,↓wW,xx,L12,x1,wl,b1,b2]
 . have b1:(b.g==a.g)=false:=by simpa using e
   simp(disch:=apply zq;omega) only[go_sem,simprocAttr,↓wW,xx,L12,x1,wl,b1]
theorem Fy (h:10<=n):call gl tab n 12 [.sl 100000 [] 0 L.length,i64 a.g,i64 a.o,i64 W] [(100000,.grow yAp (wls W C L))] =
  some (.bool true,[(100000,.grow yAp ((wls W C L).set j (waV W a (C a.g a.o+1))))],[]):=by
 obtain⟨d,rfl⟩:=wX h;have hjl:=(wC.1 hj).1;have hs:=fun i hi=>@Q8 gl (d+9) W C L j a hL hW hj hm hc hn i hi
 have wl:=cx W C L;have x1:=pc (W:=W) (C:=C) hj;have c41:=@HD gl (d+9) W a.n (C a.g a.o) hW (by omega) hc (by omega);have b1:(a.g==a.g)=true:=by simp
 have b2:(a.o==a.o)=true:=by simp
 simp only[L12,wq,K12]at hs;unfold S12 at hs;generalize hWL:wls W C L=WL at *
 generalize C a.g a.o=c at *
 rw[bf (fd:=TK) rfl];simp(disch:=apply zq;omega) only[go_sem,simprocAttr,↓wW,xx,TK,m12,wl];rw[aE _ j (by unfold LF;omega) ?_ hs ?_]
 . simp(disch:=apply zq;omega) only[go_sem,simprocAttr,↓wW,xx,x1,wl,b1,b2,c41,wH]
 . simp(disch:=apply zq;omega) only[go_sem,simprocAttr,↓wW,xx,wl]
 . simp(disch:=apply zq;omega) only[go_sem,simprocAttr,↓wW,xx,x1,wl,b1,b2,c41,wH]
end
def gvL (g:Nt)(fl:List Int)(k:Nat):List Int:=(wT g.n).map fun v=>giv g.a fl v k
theorem dG (g:Nt)(fl:List Int)(k:Nat):(gvL g fl k).length=g.n:=by simp[gvL]
theorem nh {g:Nt}{fl:List Int}{k v:Nat}(h:v<g.n):nth (gvL g fl k) v=giv g.a fl v k:=by unfold nth gvL;rw[wG,List.getElem?_map,List.getElem?_range h];rfl
theorem tB {g:Nt}{fl:List Int}{v:Nat}(h:∀i,i<g.a.length->0<=nth fl i/\nth fl i<=1073741824):∀k,k<=g.a.length->-((k:Int)*1073741824)<=giv g.a fl v k/\giv g.a fl v k<=(k:Int)*1073741824
 | 0,_=>by simp[giv]
 | k+1,hk=>by have ih:=tB (v:=v) h k (by omega);have:=h k (by omega);rw[giv];split<;>split<;>omega
theorem AM {g:Nt}{fl:List Int}{k:Nat}(hf:(art g.a k).f<g.n)(ht:(art g.a k).t<g.n)(hne:(art g.a k).f≠(art g.a k).t) :
  gvL g fl (k+1)=((gvL g fl k).set (art g.a k).f (giv g.a fl (art g.a k).f k+nth fl k)).set (art g.a k).t (giv g.a fl (art g.a k).t k-nth fl k):=by
 apply wE
 . simp[gvL]
 . intro v h1 h2;have hv:v<g.n:=by simpa[gvL]using h1
   simp only[gvL,wR,wO,wQ,giv];by_cases e1:(art g.a k).t=v
   . subst e1;rw[if_neg hne,if_pos rfl,if_pos rfl];omega
   . rw[if_neg e1,if_neg e1];by_cases e2:(art g.a k).f=v
     . subst e2;rw[if_pos rfl,if_pos rfl];omega
     . rw[if_neg e2,if_neg e2];omega
noncomputable def L77:MC:=wq 0 m96
noncomputable def LP:MC:=wq 2 m96
def S77 (g:Nt)(b:Bool)(sh:Sh)(s to:Nat)(w:Fq)(fl:List Int)(k:Nat):St :=
 ⟨[.set 29 (i64 (k:Int)),.set 28 (i64 (g.a.length:Int)),.set 27 (.lst b sh (rs g.a)),.set 10 (i64 (tot g.a fl k)),.set 9 (.sl 25 [] 0 g.n),.set 7 (.ptr 7 []),.set 2 (i64 (to:Int)),.set 1 (i64 (s:Int))],
   [(25,.grow .sc (ns (gvL g fl k))),(7,.fix yA5 (fqV w fl))]⟩
def zp (g:Nt)(s to:Nat)(w:Fq)(fl:List Int)(k:Nat):St :=
 ⟨[.set 72 (i64 (k:Int)),.set 71 (i64 (g.n:Int)),.set 70 (.sl 25 [] 0 g.n),.set 10 (i64 (tot g.a fl g.a.length)),.set 7 (.ptr 7 []),.set 2 (i64 (to:Int)),.set 1 (i64 (s:Int))],
   [(25,.grow .sc (ns (gvL g fl g.a.length))),(7,.fix yA5 (fqV w fl))]⟩
section
variable {d :Nat} {g:Nt} {b:Bool} {sh:Sh} {s to:Nat} {w:Fq} {fl:List Int} (hg:GOk g) (hsh:g.a=[]\/sh=yA4) (hf:FB g fl)
include hg hsh hf
theorem PQ :∀i,i<g.a.length->0<=nth fl i/\nth fl i<=1073741824:=fun i hi=>⟨(hf.b i hi).1,Int.le_trans (hf.b i hi).2 (hg.c i hi)⟩
theorem QJ {k:Nat}(hk:k<g.a.length):aK K77 (evC gl (call gl tab d) L77 (S77 g b sh s to w fl k))=some (S77 g b sh s to w fl (k+1)):=by
 have hsh:sh=yA4:=hsh.resolve_left (fun e=>by rw[e]at hk;simp at hk);subst hsh;have hfl:=PQ hg (.inr rfl:g.a=[]\/yA4=yA4) hf;have x1:=dY hk;have x2:=bc (show k<fl.length by rw[hf.l];exact hk);have h1:=hg.ok.f k hk;have h2:=hg.ok.t k hk;have h3:=hg.ok.ne k hk;have h4:=hf.b k hk;have hb1:=@tB g fl (art g.a k).f hfl k (by omega);have hb2:=@tB g fl (art g.a k).t hfl k (by omega);have ha:=hg.a;have hn:=hg.n;have hkk:=hg.ok.k k hk;have hfk:=hfl k hk;have htb:=Hv (g:=g) (fl:=fl) hg.ok.k hfl k (by omega);have h5:0<=(art g.a k).k*nth fl k:=Int.mul_nonneg hkk.1 hfk.1;have h6:(art g.a k).k*nth fl k<=1048576*1073741824:=Int.mul_le_mul hkk.2 hfk.2 hfk.1 (by omega);have et:tot g.a fl (k+1)=tot g.a fl k+(art g.a k).k*nth fl k:=rfl;have eg:=AM (g:=g) (fl:=fl) (k:=k) h1 h2 h3;have x3:=bc (l:=gvL g fl k) (show(art g.a k).f<_ by rw[dG];exact h1);have x4:=bc (l:=gvL g fl k) (show(art g.a k).t<_ by rw[dG];exact h2);rw[nh h1]at x3;rw[nh h2]at x4;have x5:∀y,((ns (gvL g fl k)).set (art g.a k).f y)[(art g.a k).t]? =some (i64 (giv g.a fl (art g.a k).t k)):=fun y=>by rw[List.getElem?_set_ne h3];exact x4
 have gl1:=dG g fl k;have w1:IntKind.wrap .i64 (nth fl k*(art g.a k).k)=(art g.a k).k*nth fl k:=by rw[Int.mul_comm];exact w64 (by omega)
 have w2:IntKind.wrap .i64 (tot g.a fl k+(art g.a k).k*nth fl k)=tot g.a fl k+(art g.a k).k*nth fl k:=w64 (by omega);unfold S77;rw[et,eg];generalize giv g.a fl (art g.a k).f k=z1 at *
 generalize giv g.a fl (art g.a k).t k=z2 at *
 generalize (art g.a k).k*nth fl k=z3 at *
 generalize tot g.a fl k=z4 at *
 generalize gvL g fl k=G at *
 generalize nth fl k=xk at *
 simp(disch:=apply zq;omega) only[go_sem,simprocAttr,↓wW,xx,L77,ak,ae,x1,x2,x3,x5,hf.l,fB,gl1,wH,w1,w2]
theorem Mq (hgv:∀v,giv g.a fl v g.a.length=(if v=s then w.s else 0)-(if v=to then w.s else 0))(hne:s≠to){k:Nat}(hk:k<g.n):aK Xw (evC gl (call gl tab d) LP (zp g s to w fl k))=some (zp g s to w fl (k+1)):=by
 have hn:=hg.n;have x3:=bc (l:=gvL g fl g.a.length) (show k<_ by rw[dG];exact hk);rw[nh hk,hgv]at x3;have gl1:=dG g fl g.a.length;by_cases e1:k=s
 . subst e1;rw[if_pos rfl,if_neg hne]at x3;have b1:((k:Int)==(k:Int))=true:=by simp
   have b2:((k:Int) != (k:Int))=false:=by simp
   have b3:(w.s-0 != w.s)=false:=by simp
   simp(disch:=apply zq;omega) only[go_sem,simprocAttr,↓wW,xx,LP,zp,ae,gl1,x3,b1,b2,b3]
 . have b1:((k:Int)==(s:Int))=false:=by rw[beq_eq_false_iff_ne];omega
   have b2:((k:Int) != (s:Int))=true:=by simp;omega
   rw[if_neg e1]at x3;by_cases e2:k=to
   . subst e2;rw[if_pos rfl]at x3;have b4:((k:Int) != (k:Int))=false:=by simp
     simp(disch:=apply zq;omega) only[go_sem,simprocAttr,↓wW,xx,LP,zp,ae,gl1,x3,b1,b2,b4]
   . rw[if_neg e2]at x3;have b4:((k:Int) != (to:Int))=true:=by simp;omega
     have b5:((0:Int)-0 != 0)=false:=by decide
     simp(disch:=apply zq;omega) only[go_sem,simprocAttr,↓wW,xx,LP,zp,ae,gl1,x3,b1,b2,b4,b5]
theorem J8 (h:1<=n)(hgv:∀v,giv g.a fl v g.a.length=(if v=s then w.s else 0)-(if v=to then w.s else 0))(hne:s≠to)(hc:w.c=tot g.a fl g.a.length) :
  call gl tab n 96 [nV g b sh,i64 (s:Int),i64 (to:Int),fqV w fl] []=some (.bool true,[],[]):=by
 obtain⟨d,rfl⟩:=wX h;have hs1:=fun i hi=>@QJ gl d g b sh s to w fl hg hsh hf i hi
 have hs2:=fun i hi=>@Mq gl d g sh s to w fl hg hsh hf hgv hne i hi
 simp only[L77,LP,wq]at hs1 hs2;have ha:=hg.a;have hn:=hg.n;have hl:=hf.l;have l1:g.n<=LIM:=by unfold LIM;omega
 have hz:=yb g.n 0;have e0:gvL g fl 0=List.replicate g.n 0:=by
  unfold gvL;apply wE
  . simp
  . intro v h1 h2;simp[giv]
 have b0:((g.a.length:Int) != (g.a.length:Int))=false:=by simp
 have b1:(tot g.a fl g.a.length==w.c)=true:=by rw[hc];simp
 have gl1:=dG g fl g.a.length;rw[au (fd:=SM) rfl];simp(disch:=apply zq;omega) only[go_sem,simprocAttr,↓wW,xx,SM,m96,ak,ae,hl,b0,l1,hz];rw[aE (S77 g b sh s to w fl) g.a.length (by unfold LF;omega)]
 . simp(disch:=apply zq;omega) only[go_sem,simprocAttr,↓wW,xx,S77,ak,ae,gl1];rw[aE (zp g s to w fl) g.n (by unfold LF;omega)]
   . simp(disch:=apply zq;omega) only[go_sem,simprocAttr,↓wW,xx,zp,b1,ae,gl1]
   . simp(disch:=apply zq;omega) only[go_sem,simprocAttr,↓wW,xx,zp]
   . exact hs2
   . simp(disch:=apply zq;omega) only[go_sem,simprocAttr,↓wW,xx,zp]
 . simp(disch:=apply zq;omega) only[go_sem,simprocAttr,↓wW,xx,S77,e0,tot]
 . exact hs1
 . simp(disch:=apply zq;omega) only[go_sem,simprocAttr,↓wW,xx,S77,ak]
end
noncomputable def L98:MC:=wq 0 m92
def S98 (b:Bool)(l:List Int)(i:Nat):St:=⟨[.set 8 (i64 (i:Int)),.set 7 (i64 (l.length:Int)),.set 1 (.fn 119 []),.set 0 (.lst b .sc (ns l))],[]⟩
theorem Oq (h:1<=n){x:Int}(hx:0<=x/\x<=1073741824):call gl tab n 119 [i64 x] []=some (.bool false,[],[]):=by obtain⟨d,rfl⟩:=wX h;rw[au (fd:=KD) rfl];simp(disch:=apply zq;omega) only[go_sem,simprocAttr,↓wW,xx,KD,Vc]
theorem Qz {d:Nat}{b:Bool}{l:List Int}(hl:l.length<=100000)(h:∀i,i<l.length->0<=nth l i/\nth l i<=1073741824){i:Nat}(hi:i<l.length):aK [.slot 0,.slot 1,.slot 7,.slot 8] (evC gl (call gl tab (d+1)) L98 (S98 b l i))=some (S98 b l (i+1)):=by have x1:=bc hi;have c1:=@Oq gl (d+1) (by omega) (nth l i) (h i hi);simp(disch:=apply zq;omega) only[go_sem,simprocAttr,↓wW,xx,L98,S98,ae,x1,c1]
theorem Fs (h:3<=n){b:Bool}{l:List Int}(hl:l.length<=100000)(hx:∀i,i<l.length->0<=nth l i/\nth l i<=1073741824):call gl tab n 118 [.lst b .sc (ns l),.fn 119 []] []=some (.bool false,[],[]):=by
 obtain⟨d,rfl⟩:=wX h;have hs:=fun i hi=>@Qz gl d b l hl hx i hi
 simp only[L98,wq]at hs;have c1:call gl tab (d+2) 92 [.lst b .sc (ns l),.fn 119 []] []=some (i64 (-1),[],[]):=by
  rw[au (fd:=Kf) rfl];simp(disch:=apply zq;omega) only[go_sem,simprocAttr,↓wW,xx,Kf,m92,ae];rw[aE (S98 b l) l.length (by unfold LF;omega)]
  . simp(disch:=apply zq;omega) only[go_sem,simprocAttr,↓wW,xx,S98]
  . simp(disch:=apply zq;omega) only[go_sem,simprocAttr,↓wW,xx,S98]
  . exact hs
  . simp(disch:=apply zq;omega) only[go_sem,simprocAttr,↓wW,xx,S98]
 rw[au (fd:=KE) rfl];simp(disch:=apply zq;omega) only[go_sem,simprocAttr,↓wW,xx,KE,Vd,c1]
noncomputable def L78:MC:=wq 0 m97
def S78 (g:Nt)(b:Bool)(sh:Sh)(w:Fq)(fl:List Int)(k:Nat):St :=
 ⟨[.set 32 (i64 (k:Int)),.set 31 (i64 (g.a.length:Int)),.set 30 (.lst b sh (rs g.a)),.set 5 (.ptr 5 [])],[(5,.fix yA5 (fqV w fl))]⟩
section
variable {d :Nat} {g:Nt} {b:Bool} {sh:Sh} {s to:Nat} {w:Fq} {fl:List Int} (hg:GOk g) (hsh:g.a=[]\/sh=yA4) (hf:FB g fl) (hr:RN g fl w.pr) (hp:PB g 1048576 w.pr s to)
include hg hsh hf hr hp
theorem IE :∀v,v<g.n->0<=nth w.pr v/\nth w.pr v<=1073741824:=fun v hv=>by have h1:=hp.b v hv;have h2:=hp.t;have hn:=hg.n;have hnK:(g.n:Int)*1048576<=100*1048576:=wY (by omega) (by decide);omega
theorem QI {k:Nat}(hk:k<g.a.length):aK [.slot 5,.slot 30,.slot 31,.slot 32,.key 5] (evC gl (call gl tab d) L78 (S78 g b sh w fl k))=some (S78 g b sh w fl (k+1)):=by
 have hsh:sh=yA4:=hsh.resolve_left (fun e=>by rw[e]at hk;simp at hk);subst hsh;have x1:=dY hk;have x2:=bc (show k<fl.length by rw[hf.l];exact hk);have h1:=hg.ok.f k hk;have h2:=hg.ok.t k hk;have x3:=bc (l:=w.pr) (show(art g.a k).f<_ by rw[hp.l];exact h1);have x4:=bc (l:=w.pr) (show(art g.a k).t<_ by rw[hp.l];exact h2);have p1:=IE hg (.inr rfl:g.a=[]\/yA4=yA4) hf hr hp _ h1;have p2:=IE hg (.inr rfl:g.a=[]\/yA4=yA4) hf hr hp _ h2;have hkk:=hg.ok.k k hk;have ha:=hg.a;obtain⟨r1,r2⟩:=Rx hg.ok hr hk;have hfk:=hf.b k hk;have hl:=hf.l;have hpl:=hp.l;generalize nth w.pr (art g.a k).f=y1 at *
 generalize nth w.pr (art g.a k).t=y2 at *
 generalize nth fl k=xk at *
 by_cases c1:xk<(art g.a k).c
 . have:=r1 c1;by_cases c2:0<xk
   . have:=r2 c2;simp(disch:=apply zq;omega) only[go_sem,simprocAttr,↓wW,xx,L78,S78,ak,ae,x1,x2,x3,x4,hl,hpl]
   . simp(disch:=apply zq;omega) only[go_sem,simprocAttr,↓wW,xx,L78,S78,ak,ae,x1,x2,x3,x4,hl,hpl]
 . by_cases c2:0<xk
   . have:=r2 c2;simp(disch:=apply zq;omega) only[go_sem,simprocAttr,↓wW,xx,L78,S78,ak,ae,x1,x2,x3,x4,hl,hpl]
   . simp(disch:=apply zq;omega) only[go_sem,simprocAttr,↓wW,xx,L78,S78,ak,ae,x1,x2,x3,x4,hl,hpl]
theorem Fi (hs:s<g.n)(h:4<=n):call gl tab n 97 [nV g b sh,i64 (s:Int),fqV w fl] []=some (.bool true,[],[]):=by
 obtain⟨d,rfl⟩:=wX h;have hst:=fun i hi=>@QI gl (d+3) g b sh s to w fl hg hsh hf hr hp i hi
 simp only[L78,wq]at hst;have ha:=hg.a;have hn:=hg.n;have hpl:=hp.l;have c92:=@Fs gl (d+3) (by omega) w.b2 w.pr (by omega) (fun i hi=>IE hg hsh hf hr hp i (by omega));have x1:=bc (l:=w.pr) (show s<_ by rw[hpl];exact hs);rw[hp.s]at x1;have b0:((g.n:Int) != (g.n:Int))=false:=by simp
 rw[au (fd:=SL) rfl];simp(disch:=apply zq;omega) only[go_sem,simprocAttr,↓wW,xx,SL,m97,ak,ae,hpl,x1,c92,b0];rw[aE (S78 g b sh w fl) g.a.length (by unfold LF;omega)]
 . simp(disch:=apply zq;omega) only[go_sem,simprocAttr,↓wW,xx,S78,ak]
 . simp(disch:=apply zq;omega) only[go_sem,simprocAttr,↓wW,xx,S78,ak]
 . exact hst
 . simp(disch:=apply zq;omega) only[go_sem,simprocAttr,↓wW,xx,S78,ak]
end
structure CK (cut:List Nat)(N:Nat):Prop where
 l:∀i k:Nat,cut[i]? =some k->k<N
 o:∀i k m:Nat,cut[i]? =some k->cut[i+1]? =some m->k<m
 n:cut.length<=N
theorem yV (out:List Int)(N:Nat):CK (cK out N) N:=by
 have key:∀n,(cK out n).Pairwise (· < ·):=by
  intro n
  induction n with
  | zero=>simp[cK]
  | succ n ih =>
    rw[cK];split
    . rw[List.pairwise_append];refine⟨ih,by simp,fun x hx y hy=> ?_⟩;rw[List.mem_singleton]at hy;have:=(gE.1 hx).1;omega
    . exact ih
 refine⟨fun i k h=>(gE.1 (wM h)).1,fun i k m h1 h2=> ?_,ud out N⟩;have hp:=wJ.1 (key N);obtain⟨a1,rfl⟩:=wC.1 h1;obtain⟨a2,rfl⟩:=wC.1 h2;exact hp i (i+1) a1 a2 (by omega)
def inL (cut:List Nat)(N i:Nat):List Bool:=(wT N).map fun v=>decide (v∈cut.take i)
theorem oA (cut:List Nat)(N i:Nat):(inL cut N i).length=N:=by simp[inL]
theorem la {cut:List Nat}{N i v:Nat}(h:v<N):(bs (inL cut N i))[v]? =some (.bool (decide (v∈cut.take i))):=by simp[bs,inL,h]
theorem AK {cut:List Nat}{N i k:Nat}(hk:cut[i]? =some k):inL cut N (i+1)=(inL cut N i).set k true:=by
 have ht:=tkS hk;apply wE
 . simp[inL]
 . intro v h1 h2;simp only[inL,wR,wO,wQ];rw[ht];by_cases e:k=v
   . subst e;rw[if_pos rfl];simp
   . rw[if_neg e];simp[Ne.symm e]
noncomputable def L79:MC:=wq 0 m98
noncomputable def Ha:MC:=wq 2 m98
def S79 (g:Nt)(b:Bool)(sh:Sh)(s to:Nat)(w:Fq)(fl:List Int)(i:Nat):St :=
 ⟨[.set 20 (i64 (i:Int)),.set 19 (i64 (w.cut.length:Int)),.set 18 (.lst w.b3 .sc (us w.cut)),.set 9 (.sl 16 [] 0 g.n),.set 7 (.ptr 7 []),.set 4 (.ptr 4 []),.set 2 (i64 (to:Int)),.set 1 (i64 (s:Int))],
   [(16,.grow .sc (bs (inL w.cut g.n i))),(7,.fix yA5 (fqV w fl)),(4,.fix sN2 (nV g b sh))]⟩
def Dx (g:Nt)(b:Bool)(sh:Sh)(w:Fq)(fl:List Int)(k:Nat):St :=
 ⟨[.set 65 (i64 (k:Int)),.set 64 (i64 (g.a.length:Int)),.set 63 (.lst b sh (rs g.a)),.set 9 (.sl 16 [] 0 g.n),.set 7 (.ptr 7 [])],
   [(16,.grow .sc (bs (inL w.cut g.n w.cut.length))),(7,.fix yA5 (fqV w fl))]⟩
section
variable {d :Nat} {g:Nt} {b:Bool} {sh:Sh} {s to:Nat} {w:Fq} {fl:List Int} (hg:GOk g) (hsh:g.a=[]\/sh=yA4) (hc:CK w.cut g.n)
include hg hsh hc
theorem QH {i:Nat}(hi:i<w.cut.length):aK K79 (evC gl (call gl tab d) L79 (S79 g b sh s to w fl i))=some (S79 g b sh s to w fl (i+1)):=by
 have hn:=hg.n;have hcn:=hc.n;obtain⟨k,hk⟩:∃k,w.cut[i]? =some k:=⟨_,wB hi⟩;have hkl:=hc.l i k hk;have x1:=dy hk;have il:=oA w.cut g.n i;have es:=AK (N:=g.n) hk;have bl:=dB (inL w.cut g.n i);have x5:=la (cut:=w.cut) (i:=i) hkl;unfold S79;rw[es,uk];generalize inL w.cut g.n i=I at *
 cases i with
 | zero=>simp(disch:=apply zq;omega) only[go_sem,simprocAttr,↓wW,xx,L79,aj,x1,x5,bl,il]
 | succ j =>
   obtain⟨m,hm⟩:∃m,w.cut[j]? =some m:=⟨_,wB (by omega)⟩;have hmk:=hc.o j m k hm hk;have x2:=dy hm;have e1:((j+1:Nat):Int)-1=(j:Int):=by omega
   simp(disch:=apply zq;omega) only[go_sem,simprocAttr,↓wW,xx,L79,aj,x1,x2,x5,bl,il,e1]
theorem Mp (hf:FB g fl)(hx:∀k,k<g.a.length->((art g.a k).f∈w.cut->¬(art g.a k).t∈w.cut->nth fl k=(art g.a k).c)/\(¬(art g.a k).f∈w.cut->(art g.a k).t∈w.cut->nth fl k=0)){k:Nat}(hk:k<g.a.length) :
  aK Xv (evC gl (call gl tab d) Ha (Dx g b sh w fl k))=some (Dx g b sh w fl (k+1)):=by
 have hsh:sh=yA4:=hsh.resolve_left (fun e=>by rw[e]at hk;simp at hk);subst hsh;have hn:=hg.n;have ha:=hg.a;have hl:=hf.l;have x1:=dY hk;have x2:=bc (show k<fl.length by rw[hf.l];exact hk);have h1:=hg.ok.f k hk;have h2:=hg.ok.t k hk;have x3:=la (cut:=w.cut) (i:=w.cut.length) h1;have x4:=la (cut:=w.cut) (i:=w.cut.length) h2;rw[wD]at x3 x4;obtain⟨q1,q2⟩:=hx k hk;have il:=oA w.cut g.n w.cut.length;have bl:=dB (inL w.cut g.n w.cut.length);unfold Dx;generalize inL w.cut g.n w.cut.length=I at *
 by_cases c1:(art g.a k).f∈w.cut
 . rw[decide_eq_true c1]at x3;by_cases c2:(art g.a k).t∈w.cut
   . rw[decide_eq_true c2]at x4;simp(disch:=apply zq;omega) only[go_sem,simprocAttr,↓wW,xx,Ha,ak,ae,hl,x1,x2,x3,x4,bl,il]
   . rw[decide_eq_false c2]at x4;have q:=q1 c1 c2;have b1:(nth fl k != (art g.a k).c)=false:=by rw[q];simp
     simp(disch:=apply zq;omega) only[go_sem,simprocAttr,↓wW,xx,Ha,ak,ae,hl,x1,x2,x3,x4,bl,il,b1]
 . rw[decide_eq_false c1]at x3;by_cases c2:(art g.a k).t∈w.cut
   . rw[decide_eq_true c2]at x4;have q:=q2 c1 c2;have b1:(nth fl k != 0)=false:=by rw[q];simp
     simp(disch:=apply zq;omega) only[go_sem,simprocAttr,↓wW,xx,Ha,ak,ae,hl,x1,x2,x3,x4,bl,il,b1]
   . rw[decide_eq_false c2]at x4;simp(disch:=apply zq;omega) only[go_sem,simprocAttr,↓wW,xx,Ha,ak,ae,hl,x1,x2,x3,x4,bl,il]
theorem Ox (h:1<=n)(hf:FB g fl)(hs:s<g.n)(ht:to<g.n)(hsc:s∈w.cut)(htc:¬to∈w.cut)(hx:∀k,k<g.a.length->((art g.a k).f∈w.cut->¬(art g.a k).t∈w.cut->nth fl k=(art g.a k).c)/\(¬(art g.a k).f∈w.cut->(art g.a k).t∈w.cut->nth fl k=0)) :
  call gl tab n 98 [nV g b sh,i64 (s:Int),i64 (to:Int),fqV w fl] []=some (.bool true,[],[]):=by
 obtain⟨d,rfl⟩:=wX h;have hs1:=fun i hi=>@QH gl d g b sh s to w fl hg hsh hc i hi
 have hs2:=fun i hi=>@Mp gl d g b sh w fl hg hsh hc hf hx i hi
 simp only[L79,Ha,wq]at hs1 hs2;have ha:=hg.a;have hn:=hg.n;have hcn:=hc.n;have l1:g.n<=LIM:=by unfold LIM;omega
 have hz:List.replicate g.n (AV.bool false)=bs (inL w.cut g.n 0):=by
  unfold bs inL;apply wE
  . simp
  . intro v h1 h2;simp
 have x3:=la (cut:=w.cut) (i:=w.cut.length) hs;have x4:=la (cut:=w.cut) (i:=w.cut.length) ht;rw[wD,decide_eq_true hsc]at x3;rw[wD,decide_eq_false htc]at x4;have il:=oA w.cut g.n w.cut.length;have bl:=dB (inL w.cut g.n w.cut.length);rw[au (fd:=SK) rfl];simp(disch:=apply zq;omega) only[go_sem,simprocAttr,↓wW,xx,SK,m98,ak,aj,l1,hz];rw[aE (S79 g b sh s to w fl) w.cut.length (by unfold LF;omega)]
 . simp(disch:=apply zq;omega) only[go_sem,simprocAttr,↓wW,xx,S79,aj,bl,il,x3,x4,ak];rw[aE (Dx g b sh w fl) g.a.length (by unfold LF;omega)]
   . simp(disch:=apply zq;omega) only[go_sem,simprocAttr,↓wW,xx,Dx]
   . simp(disch:=apply zq;omega) only[go_sem,simprocAttr,↓wW,xx,Dx]
   . exact hs2
   . simp(disch:=apply zq;omega) only[go_sem,simprocAttr,↓wW,xx,Dx]
 . simp(disch:=apply zq;omega) only[go_sem,simprocAttr,↓wW,xx,S79,aj]
 . exact hs1
 . simp(disch:=apply zq;omega) only[go_sem,simprocAttr,↓wW,xx,S79,aj]
end
theorem GZ (h:5<=n){g:Nt}{b:Bool}{sh:Sh}{s to:Nat}{A sent:Int}{fl pr:List Int}{cut:List Nat}{w:Fq}(hg:GOk g)(hsh:g.a=[]\/sh=yA4)(hs:s<g.n)(ht:to<g.n)(hne:s≠to)(hr:SR g s to A fl pr sent cut)
  (hA:A<=1099511627776) (w1:w.s=sent) (w2:w.c=tot g.a fl g.a.length) (w3:w.pr=pr) (w4:w.cut=cut) :
  call gl tab n 66 [nV g b sh,i64 (s:Int),i64 (to:Int),i64 A,fqV w fl] []=some (i64 0,[],[]):=by
 obtain⟨d,rfl⟩:=wX h;have hsi:=hr.si;subst w1 w3;have c77:=@J8 gl (d+4) g b sh s to w fl hg hsh hsi.fb (by omega) hsi.gv hne w2;have c78:=@Fi gl (d+4) g b sh s to w fl hg hsh hsi.fb hsi.rn hsi.pb hs (by omega);have hsa:=hsi.sa;rw[au (fd:=N7) rfl];rcases hr.c with ⟨h1,h2⟩|⟨h1,out,hd,hfar,h2⟩
 . have e1:(w.s==A)=true:=by rw[h1];simp
   have e2:w.cut.length=0:=by rw[w4,h2];rfl
   simp(disch:=apply zq;omega) only[go_sem,simprocAttr,↓wW,xx,N7,m66,c77,c78,e1,aj,e2]
 . have e1:(w.s==A)=false:=by rw[beq_eq_false_iff_ne];omega
   have hm:∀v,v<g.n->(v∈w.cut↔nth out v<far):=fun v hv=>by rw[w4,h2,gE];exact⟨fun h=>h.2,fun h=>⟨hv,h⟩⟩
   have hB:(g.n:Int)*1048576+1048576<far:=by have hn:=hg.n;have hnK:(g.n:Int)*1048576<=100*1048576:=wY (by omega) (by decide);unfold far;omega
   have hck:CK w.cut g.n:=by rw[w4,h2];exact yV out g.n
   have c79:=@Ox gl (d+4) g b sh s to w fl hg hsh hck (by omega) hsi.fb hs ht ((hm s hs).2 (by rw[hd.sz];unfold far;decide)) (fun h=>by have:=(hm to ht).1 h;omega) (fun k hk=>by
    have:=Lg hg.ok (by decide) hB hs hsi.pb hsi.fb hd hk;rw[hm _ (hg.ok.f k hk),hm _ (hg.ok.t k hk)];exact this)
   simp(disch:=apply zq;omega) only[go_sem,simprocAttr,↓wW,xx,N7,m66,c77,c78,c79,e1]
theorem MX (h:1<=n){g:Nt}{b c:Bool}{sh:Sh}{cut:List Nat}:call gl tab n 70 [nV g b sh,.lst c .sc (us cut)] []=some (.fn 106 [.ptr 20000 [],.ptr 20001 []],[],[.fix sN2 (nV g b sh),.fix .sc (.lst c .sc (us cut))]):=by obtain⟨d,rfl⟩:=wX h;rw[bf (fd:=S6) rfl];simp(disch:=apply zq;omega) only[go_sem,simprocAttr,↓wW,xx,S6,m70]
theorem HR (h:1<=n){k:Nat}{a:Int}{x:Ar}(ha:0<=a/\a<=4611686018427387904)(hc:0<=x.c/\x.c<=1073741824):call gl tab n 1000390 [i64 (k:Int),aV x] [(100000,.lp 390 [.ptr 100001 []] .ready),(100001,.fix .sc (i64 a))] =
  some (.bool true,[(100000,.lp 390 [.ptr 100001 []] .ready),(100001,.fix .sc (i64 (a+x.c)))],[]):=by
 obtain⟨d,rfl⟩:=wX h;rw[cX (fd:=yK) rfl rfl];simp(disch:=apply zq;omega) only[go_sem,simprocAttr,↓wW,xx,yK,I6,I4]
noncomputable def L87:MC:=wq 0 NA
noncomputable def LN:MC:=wq 2 NA
def h87 (g:Nt)(b c:Bool)(sh:Sh)(cut:List Nat)(a:Int)(I:List Bool):Hp :=
 [(100003,.fix .sc (.lst c .sc (us cut))),(100002,.fix sN2 (nV g b sh)),(100001,.fix .sc (i64 a)),(100000,.lp 390 [.ptr 100001 []] .ready),(11,.grow .sc (bs I))]
def S87 (g:Nt)(b c:Bool)(sh:Sh)(cut:List Nat)(i:Nat):St :=
 ⟨[.set 14 (i64 (i:Int)),.set 13 (i64 (cut.length:Int)),.set 12 (.lst c .sc (us cut)),.set 4 (.sl 11 [] 0 g.n),.set 1 (.ptr 100002 []),.set 0 (.yld 100000)],h87 g b c sh cut 0 (inL cut g.n i)⟩
abbrev inP (cut:List Nat):Nat->Bool:=fun v=>decide (v∈cut)
def Dw (g:Nt)(b c:Bool)(sh:Sh)(cut:List Nat)(k:Nat):St :=
 ⟨[.set 25 (i64 (k:Int)),.set 24 (i64 (g.a.length:Int)),.set 23 (.lst b sh (rs g.a)),.set 4 (.sl 11 [] 0 g.n),.set 0 (.yld 100000)],h87 g b c sh cut (bnd (inP cut) g.a k) (inL cut g.n cut.length)⟩
section
variable {d :Nat} {g:Nt} {b c:Bool} {sh:Sh} {cut:List Nat} (hg:GOk g) (hsh:g.a=[]\/sh=yA4) (hc:CK cut g.n)
include hg hsh hc
theorem P0 :∀k,k<=g.a.length->0<=bnd (inP cut) g.a k/\bnd (inP cut) g.a k<=(k:Int)*1073741824
 | 0,_=>by simp[bnd]
 | k+1,hk=>by have ih:=P0 k (by omega);have h1:=hg.ok.c k (by omega);have h2:=hg.c k (by omega);rw[bnd];split<;>omega
theorem QE {i:Nat}(hi:i<cut.length):aK K87 (evC gl (call gl tab d) L87 (S87 g b c sh cut i))=some (S87 g b c sh cut (i+1)):=by
 have hn:=hg.n;have hcn:=hc.n;obtain⟨k,hk⟩:∃k,cut[i]? =some k:=⟨_,wB hi⟩;have hkl:=hc.l i k hk;have x1:=dy hk;have il:=oA cut g.n i;have es:=AK (N:=g.n) hk;have bl:=dB (inL cut g.n i);have x5:=la (cut:=cut) (i:=i) hkl;unfold S87 h87;rw[es,uk];generalize inL cut g.n i=I at *
 simp(disch:=apply zq;omega) only[go_sem,simprocAttr,↓wW,xx,L87,aj,x1,x5,bl,il]
theorem Mo {k:Nat}(hk:k<g.a.length):aK Xu (evC gl (call gl tab (d+1)) LN (Dw g b c sh cut k))=some (Dw g b c sh cut (k+1)):=by
 have hsh:sh=yA4:=hsh.resolve_left (fun e=>by rw[e]at hk;simp at hk);subst hsh;have hn:=hg.n;have ha:=hg.a;have x1:=dY hk;have h1:=hg.ok.f k hk;have h2:=hg.ok.t k hk;have x3:=la (cut:=cut) (i:=cut.length) h1;have x4:=la (cut:=cut) (i:=cut.length) h2;rw[wD]at x3 x4;have il:=oA cut g.n cut.length;have bl:=dB (inL cut g.n cut.length);have hb:=P0 hg (.inr rfl:g.a=[]\/yA4=yA4) hc k (by omega);have c1:=@HR gl (d+1) (by omega) k (bnd (inP cut) g.a k) (art g.a k) (by omega) ⟨hg.ok.c k hk,hg.c k hk⟩;have e:bnd (inP cut) g.a (k+1)=bnd (inP cut) g.a k+if inP cut (art g.a k).f=true/\inP cut (art g.a k).t=false then(art g.a k).c else 0:=rfl;unfold Dw h87;rw[e];clear e;generalize bnd (inP cut) g.a k=D at *
 generalize inL cut g.n cut.length=I at *
 by_cases q1:(art g.a k).f∈cut
 . rw[decide_eq_true q1]at x3;by_cases q2:(art g.a k).t∈cut
   . rw[decide_eq_true q2]at x4;rw[if_neg (by simp[inP,q2])];simp(disch:=apply zq;omega) only[go_sem,simprocAttr,↓wW,xx,LN,ak,x1,x3,x4,bl,il,wZ]
   . rw[decide_eq_false q2]at x4;rw[if_pos (by simp[inP,q1,q2])];simp(disch:=apply zq;omega) only[go_sem,simprocAttr,↓wW,xx,LN,ak,x1,x3,x4,bl,il,c1]
 . rw[decide_eq_false q1]at x3;rw[if_neg (by simp[inP,q1])];simp(disch:=apply zq;omega) only[go_sem,simprocAttr,↓wW,xx,LN,ak,x1,x3,x4,bl,il,wZ]
theorem Nd (h:2<=n):call gl tab n 106 [.yld 100000,.ptr 100002 [],.ptr 100003 []] [(100000,.lp 390 [.ptr 100001 []] .ready),(100001,.fix .sc (i64 0)),(100002,.fix sN2 (nV g b sh)),(100003,.fix .sc (.lst c .sc (us cut)))] =
  some (.tup [],[(100000,.lp 390 [.ptr 100001 []] .ready),(100001,.fix .sc (i64 (bnd (inP cut) g.a g.a.length))),(100002,.fix sN2 (nV g b sh)),(100003,.fix .sc (.lst c .sc (us cut)))],[]):=by
 obtain⟨d,rfl⟩:=wX h;have hs1:=fun i hi=>@QE gl (d+1) g b c sh cut hg hsh hc i hi
 have hs2:=fun i hi=>@Mo gl d g b c sh cut hg hsh hc i hi
 simp only[L87,LN,wq]at hs1 hs2;have ha:=hg.a;have hn:=hg.n;have hcn:=hc.n;have l1:g.n<=LIM:=by unfold LIM;omega
 have hz:List.replicate g.n (AV.bool false)=bs (inL cut g.n 0):=by
  unfold bs inL;apply wE
  . simp
  . intro v h1 h2;simp
 rw[bf (fd:=KL) rfl];simp(disch:=apply zq;omega) only[go_sem,simprocAttr,↓wW,xx,KL,NA,ak,aj,l1,hz];rw[aE (S87 g b c sh cut) cut.length (by unfold LF;omega)]
 . simp(disch:=apply zq;omega) only[go_sem,simprocAttr,↓wW,xx,S87,h87,aj,ak];rw[aE (Dw g b c sh cut) g.a.length (by unfold LF;omega)]
   . simp(disch:=apply zq;omega) only[go_sem,simprocAttr,↓wW,xx,Dw,h87]
   . simp(disch:=apply zq;omega) only[go_sem,simprocAttr,↓wW,xx,Dw,h87,bnd]
   . exact hs2
   . simp(disch:=apply zq;omega) only[go_sem,simprocAttr,↓wW,xx,Dw,h87]
 . simp(disch:=apply zq;omega) only[go_sem,simprocAttr,↓wW,xx,S87,h87,aj]
 . exact hs1
 . simp(disch:=apply zq;omega) only[go_sem,simprocAttr,↓wW,xx,S87,h87,aj]
theorem Lw (h:3<=n):call gl tab n 39 [nV g b sh,.lst c .sc (us cut)] []=some (i64 (bnd (inP cut) g.a g.a.length),[],[]):=by obtain⟨d,rfl⟩:=wX h;have c1:=@MX gl (d+2) (by omega) g b c sh cut;have c2:=@Nd gl (d+2) g b c sh cut hg hsh hc (by omega);rw[au (fd:=Tp) rfl];simp(disch:=apply zq;omega) only[go_sem,simprocAttr,↓wW,xx,Tp,m39,c1,c2]
end
noncomputable def L42:MC:=wq 0 m38
def S42 (g:Nt)(b c:Bool)(sh:Sh)(cut:List Nat)(i:Nat):St :=
 ⟨[.set 9 (i64 (i:Int)),.set 8 (i64 (cut.length:Int)),.set 7 (.lst c .sc (us cut)),.set 2 (.ptr 2 []),.set 1 (.lst c .sc (us cut))],[(2,.fix sN2 (nV g b sh))]⟩
section
variable {d :Nat} {g:Nt} {b c:Bool} {sh:Sh} {cut:List Nat} (hn:g.n<=100) (hc:CK cut g.n) (h1:¬1∈cut)
include hn hc h1
theorem QX {i:Nat}(hi:i<cut.length):aK K42 (evC gl (call gl tab d) L42 (S42 g b c sh cut i))=some (S42 g b c sh cut (i+1)):=by
 have hcn:=hc.n;obtain⟨k,hk⟩:∃k,cut[i]? =some k:=⟨_,wB hi⟩;have hkl:=hc.l i k hk;have hk1:k≠1:=fun e=>h1 (by rw[<-e];exact wM hk)
 have e1:((k:Int)==1)=false:=by rw[beq_eq_false_iff_ne];omega
 have x1:=dy hk
 cases i with
 | zero=>simp(disch:=apply zq;omega) only[go_sem,simprocAttr,↓wW,xx,L42,S42,aj,x1,e1]
 | succ j =>
   obtain⟨m,hm⟩:∃m,cut[j]? =some m:=⟨_,wB (by omega)⟩;have hmk:=hc.o j m k hm hk;have x2:=dy hm;have e2:((j+1:Nat):Int)-1=(j:Int):=by omega
   simp(disch:=apply zq;omega) only[go_sem,simprocAttr,↓wW,xx,L42,S42,aj,x1,x2,e1,e2]
theorem Ip (h:1<=n)(h0:cut[0]? =some 0):call gl tab n 38 [nV g b sh,.lst c .sc (us cut)] []=some (.bool true,[],[]):=by
 obtain⟨d,rfl⟩:=wX h;have hs:=fun i hi=>@QX gl d g b c sh cut hn hc h1 i hi
 simp only[L42,wq]at hs;have hcn:=hc.n;have hl:0<cut.length:=(wC.1 h0).1;have x0:=dy h0;rw[au (fd:=Tq) rfl];simp(disch:=apply zq;omega) only[go_sem,simprocAttr,↓wW,xx,Tq,m38,aj];rw[aE (S42 g b c sh cut) cut.length (by unfold LF;omega)]
 . simp(disch:=apply zq;omega) only[go_sem,simprocAttr,↓wW,xx,S42,aj,x0]
 . simp(disch:=apply zq;omega) only[go_sem,simprocAttr,↓wW,xx,S42,aj]
 . exact hs
 . simp(disch:=apply zq;omega) only[go_sem,simprocAttr,↓wW,xx,S42,aj]
end
noncomputable def L65:MC:=wq 0 m71
def S65 (c:Bool)(cut:List Nat)(v:Nat)(i:Nat):St:=⟨[.set 8 (i64 (i:Int)),.set 7 (i64 (cut.length:Int)),.set 1 (i64 (v:Int)),.set 0 (.lst c .sc (us cut))],[]⟩
theorem Bk (h:2<=n){c:Bool}{cut:List Nat}{v:Nat}(hl:cut.length<=100000)(hv:v∈cut):call gl tab n 40 [.lst c .sc (us cut),i64 (v:Int)] []=some (.bool true,[],[]):=by
 obtain⟨d,rfl⟩:=wX h;rcases iy (fun i=>cut[i]? ≠some v) cut.length with hA|⟨k,hk,hb,he⟩
 . obtain⟨i,hi,e⟩:=wN hv;exact absurd (by rw[wB hi,e]) (hA i hi)
 . have he:cut[k]? =some v:=wU he
   have hs:∀i,i<k->aK [.slot 0,.slot 1,.slot 7,.slot 8] (evC gl (call gl tab d) L65 (S65 c cut v i))=some (S65 c cut v (i+1)):=fun i hi=>by
    obtain⟨m,hm⟩:∃m,cut[i]? =some m:=⟨_,wB (by omega)⟩;have hne:m≠v:=fun e=>hb i hi (by rw[hm,e])
    have x1:=dy hm;have e1:((v:Int)==(m:Int))=false:=by rw[beq_eq_false_iff_ne];omega
    simp(disch:=apply zq;omega) only[go_sem,simprocAttr,↓wW,xx,L65,S65,aj,x1,e1]
   have hx:sC 4 (evC gl (call gl tab d) L65 (S65 c cut v k))=some (.ret,i64 (k:Int)):=by
    have x1:=dy he;have e1:((v:Int)==(v:Int))=true:=by simp
    simp(disch:=apply zq;omega) only[go_sem,simprocAttr,↓wW,xx,L65,S65,aj,x1,e1]
   obtain⟨st,hst,hg⟩:=ji hx;simp only[L65,wq]at hs hst;have c1:call gl tab (d+1) 71 [.lst c .sc (us cut),i64 (v:Int)] []=some (i64 (k:Int),[],[]):=by
    rw[au (fd:=S5) rfl];simp(disch:=apply zq;omega) only[go_sem,simprocAttr,↓wW,xx,S5,m71,aj];rw[aE (S65 c cut v) k (by unfold LF;omega),hst]
    . simp(disch:=apply zq;omega) only[go_sem,simprocAttr,↓wW,xx,hg]
    . simp(disch:=apply zq;omega) only[go_sem,simprocAttr,↓wW,xx,S65]
    . exact hs
    . rw[hst];rfl
   rw[au (fd:=To) rfl];simp(disch:=apply zq;omega) only[go_sem,simprocAttr,↓wW,xx,To,m40,c1]
theorem DV (h:1<=n){q:PF}{p:List Sp}{r:List Rd}(hq:PFOk q p r)(hp:p.length<=100){i:Nat}(hi:i<p.length)(hk:(spt p i).kd=1):call gl tab n 28 [plV q p r,i64 (i:Int)] []=some (.tup [sV (spt p i),.bool true],[],[]):=by
 obtain⟨d,rfl⟩:=wX h;have hs:q.s=sSp:=hq.s.resolve_left fun h=>by rw[h]at hi;simp at hi
 have x1:=da hi;have e:((spt p i).kd != 1)=false:=by rw[hk];decide
 obtain⟨qb,qs,qc,qt⟩:=q;simp only at hs;subst hs;rw[au (fd:=Tz) rfl];simp(disch:=apply zq;omega) only[go_sem,simprocAttr,↓wW,xx,Tz,m28,ah,x1,e]
theorem u7 (h:1<=n){w:Int}(hw:0<=w/\w<=1099511627776):call gl tab n 31 [i64 w] []=some (.bool true,[],[]):=by obtain⟨d,rfl⟩:=wX h;rw[au (fd:=Tx) rfl];simp(disch:=apply zq;omega) only[go_sem,simprocAttr,↓wW,xx,Tx,m31]
structure Rf where
 pl:Nat
 nn:Int
 wn:Int
 sent:Int
 c:Bool
 cut:List Nat
 lo:Int
 hi:Int
 ser:Int
 sl:List AV
structure SlOk (l:List AV):Prop where
 len:l.length=16
 a:l.all AV.scalar=true
 i:dN l=true
abbrev rfV (x:Rf):AV:=.agg [i64 (x.pl:Int),i64 x.nn,i64 x.wn,i64 x.sent,.lst x.c .sc (us x.cut),.agg [i64 x.lo,i64 x.hi],i64 x.ser,.agg x.sl]
abbrev nB (p:List Sp)(r:List Rd):Bool:=(aJ p r).isEmpty
abbrev nS (p:List Sp)(r:List Rd):Sh:=if(aJ p r).isEmpty then .sc else yA4
theorem Pn (p:List Sp)(r:List Rd):(net p r).a=[]\/nS p r=yA4:=by
 by_cases e:(aJ p r)=[]
 . exact .inl e
 . unfold nS;rw[List.isEmpty_eq_false_iff.2 e];exact .inr rfl
section
variable {q :PF} {p:List Sp} {r:List Rd} (hq:PFOk q p r) (hk:PK p r) (hp:p.length<=49) (hr:r.length<=1500) {x:Rf} (hsl:SlOk x.sl)
include hq hk hp hr hsl
theorem HE (h:4<=n)(hc:CK x.cut (net p r).n)(h1:¬1∈x.cut)(h0:x.cut[0]? =some 0)(hb:bnd (inP x.cut) (aJ p r) (aJ p r).length=x.sent)(hd:x.sent<dm p p.length)(hm:2+2*x.pl∈x.cut) :
  call gl tab n 37 [.cp sN2 (nV (net p r) (nB p r) (nS p r)),.cp yA8 (rfV x),.cp sPl (plV q p r)] []=some (.bool true,[],[]):=by
 obtain⟨d,rfl⟩:=wX h;have hg:=gQ hq hk hp hr;have hcn:=hc.n;have hgn:=hg.n;obtain⟨j,hj⟩:=List.mem_iff_getElem?.1 hm;have hpl:=hc.l j _ hj;have c42:=@Ip gl (d+3) (net p r) (nB p r) x.c (nS p r) x.cut hg.n hc h1 (by omega) h0;have c43:=@Lw gl (d+3) (net p r) (nB p r) x.c (nS p r) x.cut hg (Pn p r) hc (by omega);rw[show(net p r).a=aJ p r from rfl,hb]at c43;have c20:=@me gl (d+3) q p r hq hk (by omega);have c44:=@Bk gl (d+3) (by omega) x.c x.cut (2+2*x.pl) (by omega) hm;rw[show((2+2*x.pl:Nat):Int)=2+2*(x.pl:Int) by omega]at c44;have b1:(x.sent==x.sent)=true:=by simp
 rw[au (fd:=Ts) rfl];simp(disch:=apply zq;omega) only[go_sem,simprocAttr,↓wW,xx,Ts,m37,c42,c43,c20,c44,b1,hsl.len,hsl.a,hsl.i]
theorem mS (h:6<=n)(hi:x.pl<p.length)(hkd:(spt p x.pl).kd=1)(hnn:0<=x.nn/\x.nn<(spt p x.pl).cp)(hw:0<=x.wn/\x.wn<=1099511627776)
  (hc:CK x.cut (net p r).n) (h1:¬1∈x.cut) (h0:x.cut[0]? =some 0) (hb:bnd (inP x.cut) (aJ p r) (aJ p r).length=x.sent) (hd:x.sent<dm p p.length) (hm:2+2*x.pl∈x.cut) :
  call gl tab n 11 [plV q p r,rfV x] []=some (i64 0,[],[]):=by
 obtain⟨d,rfl⟩:=wX h;have c32:=@DV gl (d+5) (by omega) q p r hq (by omega) x.pl hi hkd;have c35:=@u7 gl (d+5) (by omega) x.wn hw;have c19:=@yd gl (d+5) q p r hq hk (by omega);have c41:=@HE gl (d+5) q p r hq hk hp hr x hsl (by omega) hc h1 h0 hb hd hm;have hcp:=hk.ok.cp x.pl hi;rw[au (fd:=TL) rfl];simp(disch:=apply zq;omega) only[go_sem,simprocAttr,↓wW,xx,TL,m11,c32,c35,c19,c41,hsl.len,hsl.a,hsl.i]
end
end Go.Proofs.S51
