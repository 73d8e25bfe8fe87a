/-
  What is sent: its cut. No condition.
-/
import Derived.Test.YtaloneiaejhopaaGreatDoorW51G10x3
import Derived.Test.YtaloneiaejhopaaGreatDoorW51G7x3
import Derived.Test.YtaloneiaejhopaaGreatDoorW51G1x3
import Derived.Test.YtaloneiaejhopaaGreatDoorW51G9x3
set_option linter.all false
open Nat renaming reduceEqDiff->wB,exists_eq_add_of_le'->wC,le_refl->wD,min_eq_left->wE,lt_irrefl->wF,add_zero->wG
open List renaming getElem?_eq_getElem->wH,mem_of_getElem?->wJ,getElem?_eq_some_iff->wK,getD_eq_getElem?_getD->wM,take_length->wN,length_take->wO,take_succ->wP,length_append->wQ,take_of_length_le->wR,length_singleton->wS,getElem?_set_ne->wT,cons_append->wU,length_set->wW
open Option renaming bind_some->wX
open Classical renaming not_forall->wY,not_not->wZ,not_imp->w0
namespace Go.Proofs.S51
open Go Go.Ev Go.Proofs Go.Fl
variable {gl :Gl} {n:Nat}
theorem EP {P Q:Nat->Bool}{a:List Ar}:∀{m:Nat},(∀i,i<m->P (art a i).f=Q (art a i).f/\P (art a i).t=Q (art a i).t)->bnd P a m=bnd Q a m
 | 0,_=>rfl
 | m+1,h=>by obtain⟨h1,h2⟩:=h m (by omega);rw[bnd,bnd,EP fun i hi=>h i (by omega),h1,h2]
theorem xm {out:List Int}(h:nth out 0<far):∀n,0<n->(cK out n)[0]? =some 0
 | 0,h0=>absurd h0 (wF 0)
 | 1,_=>by rw[cK,if_pos h];rfl
 | n+2,_=>by
   have ih:=xm h (n+1) (by omega);rw[cK];split
   . rw[List.getElem?_append_left (wK.1 ih).1];exact ih
   . exact ih
structure CutOk (p:List Sp)(r:List Rd)(fl:List Int)(sent:Int)(cut:List Nat):Prop where
 ck:CK cut (net p r).n
 h1:¬1∈cut
 h0:cut[0]? =some 0
 b:bnd (inP cut) (aJ p r) (aJ p r).length=sent
 m:∀i,i<p.length->(spt p i).kd=1->nth fl i<(spt p i).cp->2+2*i∈cut
theorem Lj {q:PF}{p:List Sp}{r:List Rd}(hq:PFOk q p r)(hk:PK p r)(hp:p.length<=49)(hr:r.length<=1500){A sent:Int}{fl pr:List Int}{cut:List Nat}(hs:SR (net p r) 0 1 A fl pr sent cut)(hlt:sent<A):CutOk p r fl sent cut:=by
 have hg:=gQ hq hk hp hr;have hgn:=hg.n;have h0n:0<(net p r).n:=by show 0<2+2*p.length;omega
 have h1n:1<(net p r).n:=by show 1<2+2*p.length;omega
 rcases hs.c with ⟨e,_⟩|⟨_,out,hd,hfar,e⟩
 . omega
 have hB:((net p r).n:Int)*1048576+1048576<far:=by have hnK:((net p r).n:Int)*1048576<=100*1048576:=Int.mul_le_mul_of_nonneg_right (by omega) (by decide);unfold far;omega
 have hm:∀v,v<(net p r).n->(v∈cut↔nth out v<far):=fun v hv=>by rw[e,gE];exact⟨fun h=>h.2,fun h=>⟨hv,h⟩⟩
 have h0:nth out 0<far:=by rw[hd.sz];unfold far;decide
 refine⟨by rw[e];exact yV out _,fun h=> ?_,by rw[e];exact xm h0 _ h0n,?_,fun i hi hkd hl=> ?_⟩
 . have:=(hm 1 h1n).1 h;omega
 . have hb:=Oy hg.ok (by decide) hB h0n hs.si hd hfar;rw[<-hb];refine EP fun i hi=>⟨?_,?_⟩
   . have:=hm _ (hg.ok.f i hi);show decide _=decide _;exact decide_eq_decide.2 this
   . have:=hm _ (hg.ok.t i hi);show decide _=decide _;exact decide_eq_decide.2 this
 . rw[hm _ (by show 2+2*i<2+2*p.length;omega)];exact xI hk.ok hg.ok (by decide) hB hs.si hd hi hkd hl
def p0 :List Sp:=[⟨1,1,3⟩,⟨2,10,9⟩,⟨3,7,2⟩]
def r0 :List Rd:=[⟨0,1,9,1⟩,⟨1,2,9,1⟩]
theorem lt3 {P:Nat->Prop}(h0:P 0)(h1:P 1)(h2:P 2):∀i,i<3->P i:=fun i hi=>by
 rcases i with _|_|_|i
 . exact h0
 . exact h1
 . exact h2
 . omega
theorem lt2 {P:Nat->Prop}(h0:P 0)(h1:P 1):∀i,i<2->P i:=fun i hi=>by
 rcases i with _|_|i
 . exact h0
 . exact h1
 . omega
theorem pk0 :PK p0 r0 where
 s:=lt3 (P:=fun i=>SpOk (spt p0 i)) ⟨by decide,.inl (by decide)⟩ ⟨by decide,.inr (by decide)⟩ ⟨by decide,.inr (by decide)⟩
 ok:=by
  refine⟨by decide,by decide,?_,?_,?_,?_,?_,?_,?_⟩
  . exact lt3 (P:=fun i=>(spt p0 i).kd=1\/(spt p0 i).kd=2\/(spt p0 i).kd=3) (by decide) (by decide) (by decide)
  . exact lt3 (P:=fun i=>0<=(spt p0 i).nu/\(spt p0 i).nu<=1073741824) (by decide) (by decide) (by decide)
  . exact lt3 (P:=fun i=>0<=(spt p0 i).cp/\(spt p0 i).cp<=1073741824) (by decide) (by decide) (by decide)
  . intro i j hij hj;have hj:j<3:=hj;have:(i=0/\j=1)\/(i=0/\j=2)\/(i=1/\j=2):=by omega
    rcases this with ⟨rfl,rfl⟩|⟨rfl,rfl⟩|⟨rfl,rfl⟩<;>decide
  . exact lt2 (P:=fun i=>0<=(rdt r0 i).f/\(rdt r0 i).f<p0.length/\0<=(rdt r0 i).t/\(rdt r0 i).t<p0.length/\(rdt r0 i).f≠(rdt r0 i).t) (by decide) (by decide)
  . exact lt2 (P:=fun i=>0<=(rdt r0 i).c/\(rdt r0 i).c<=1073741824/\0<=(rdt r0 i).k/\(rdt r0 i).k<=1048576) (by decide) (by decide)
  . exact lt2 (P:=fun i=>(spt p0 (rdt r0 i).f.toNat).kd≠3/\(spt p0 (rdt r0 i).t.toNat).kd≠1) (by decide) (by decide)
theorem dm0 :dm p0 p0.length=3:=by decide
theorem UJ {q:PF}(hq:PFOk q p0 r0){fl pr:List Int}{sent:Int}{cut:List Nat}(hs:SR (net p0 r0) 0 1 3 fl pr sent cut):sent=2/\nth fl 0=2:=by
 have hg:=gQ hq pk0 (by decide) (by decide);have hsi:=hs.si;have gv:=hsi.gv;have b:=hsi.fb.b;have hl:(net p0 r0).a.length=7:=rfl;have g2:=gv 2;have g3:=gv 3;have g4:=gv 4;have g5:=gv 5;have g6:=gv 6;have g7:=gv 7;have g0:=gv 0;rw[hl]at g2 g3 g4 g5 g6 g7 g0;have b0:=b 0 (by rw[hl];decide);have b1:=b 1 (by rw[hl];decide);have b2:=b 2 (by rw[hl];decide);have b3:=b 3 (by rw[hl];decide);have b4:=b 4 (by rw[hl];decide);have b5:=b 5 (by rw[hl];decide);have b6:=b 6 (by rw[hl];decide);have a0:art (net p0 r0).a 0=⟨2,3,3,0⟩:=rfl;have a1:art (net p0 r0).a 1=⟨4,5,9,0⟩:=rfl;have a2:art (net p0 r0).a 2=⟨6,7,2,0⟩:=rfl;have a3:art (net p0 r0).a 3=⟨0,2,3,0⟩:=rfl;have a4:art (net p0 r0).a 4=⟨7,1,2,0⟩:=rfl;have a5:art (net p0 r0).a 5=⟨3,4,9,1⟩:=rfl;have a6:art (net p0 r0).a 6=⟨5,6,9,1⟩:=rfl;rw[a0]at b0;rw[a1]at b1;rw[a2]at b2;rw[a3]at b3;rw[a4]at b4;rw[a5]at b5;rw[a6]at b6;simp only[giv,a0,a1,a2,a3,a4,a5,a6]at g0 g2 g3 g4 g5 g6 g7;simp at g0 g2 g3 g4 g5 g6 g7;simp only at b0 b1 b2 b3 b4 b5 b6;have hsl:sent<=2:=by omega
 rcases hs.c with ⟨e,_⟩|⟨_,out,hd,hfar,e⟩
 . omega
 by_cases h2:sent=2
 . exact⟨h2,by omega⟩
 exfalso;have hB:((net p0 r0).n:Int)*1048576+1048576<far:=by decide
 have h0n:0<(net p0 r0).n:=by decide
 have st:∀v i t:Nat,v<8->i<7->(art (net p0 r0).a i).f=v->(art (net p0 r0).a i).t=t->nth fl i<(art (net p0 r0).a i).c->nth out v<far->nth out t<far:=fun v i t hv hi h1 h2 h3 h4=>by have:=EI hg.ok (by decide) hB h0n hsi.pb hd (v:=v) (i:=i) hv h4 ⟨hi,.inl h1⟩ (by unfold room;rw[if_pos h1];omega);unfold oth at this;rw[if_pos h1,h2]at this;exact this
 have o0:nth out 0<far:=by rw[hd.sz];unfold far;decide
 have o2:=st 0 3 2 (by omega) (by omega) rfl rfl (by rw[a3];simp only;omega) o0;have o3:=st 2 0 3 (by omega) (by omega) rfl rfl (by rw[a0];simp only;omega) o2;have o4:=st 3 5 4 (by omega) (by omega) rfl rfl (by rw[a5];simp only;omega) o3;have o5:=st 4 1 5 (by omega) (by omega) rfl rfl (by rw[a1];simp only;omega) o4;have o6:=st 5 6 6 (by omega) (by omega) rfl rfl (by rw[a6];simp only;omega) o5;have o7:=st 6 2 7 (by omega) (by omega) rfl rfl (by rw[a2];simp only;omega) o6;have o1:=st 7 4 1 (by omega) (by omega) rfl rfl (by rw[a4];simp only;omega) o7;omega
structure RfC (p:List Sp)(r:List Rd)(x:Rf):Prop where
 sl:SlOk x.sl
 i:x.pl<p.length
 kd:(spt p x.pl).kd=1
 nn:0<=x.nn/\x.nn<(spt p x.pl).cp
 w:0<=x.wn/\x.wn<=1099511627776
 ck:CK x.cut (net p r).n
 h1:¬1∈x.cut
 h0:x.cut[0]? =some 0
 b:bnd (inP x.cut) (aJ p r) (aJ p r).length=x.sent
 d:x.sent<dm p p.length
 m:2+2*x.pl∈x.cut
def rfs (l:List Rf):List AV:=l.map fun x=>rfV x
theorem gk (l:List Rf):(rfs l).length=l.length:=by simp[rfs]
theorem H3 {l:List Rf}{i:Nat}{x:Rf}(h:l[i]? =some x):(rfs l)[i]? =some (rfV x):=by simp[rfs,h]
def esN :Nat->List Rf->List (AV×AV×Nat)
 | _,[]=>[]
 | k,x::l=>(.agg [i64 (x.pl:Int),i64 x.nn],.bool true,k)::esN (k+1) l
theorem EB (y:Rf):∀(k:Nat) (l:List Rf),esN k (l++[y])=esN k l++[(.agg [i64 (y.pl:Int),i64 y.nn],.bool true,k+l.length)]
 | k,[]=>rfl
 | k,x::l=>by rw[wU,esN,EB y (k+1) l,esN,wU,List.length_cons,show k+1+l.length=k+(l.length+1) by omega]
abbrev Nm (x y:Rf):Prop:=¬(x.pl=y.pl/\x.nn=y.nn)
theorem Bb {y:Rf}:∀{l:List Rf} {k:Nat},(∀x∈l,Nm x y)->bQ (.agg [i64 (y.pl:Int),i64 y.nn]) (esN k l)=some none
 | [],_,_=>rfl
 | x::l,k,h=>by
   have hx:=h x (by simp);have hk:gD (.agg [i64 (y.pl:Int),i64 y.nn]) (.agg [i64 (x.pl:Int),i64 x.nn])=some false:=by
    show eqI _ _=_;simp only[eqI,if_true,Option.map_some,Option.some.injEq];by_cases e1:(y.pl:Int)=(x.pl:Int)
    . by_cases e2:y.nn=x.nn
      . exact absurd ⟨by omega,e2.symm⟩ hx
      . rw[show(y.nn==x.nn)=false from beq_eq_false_iff_ne.2 e2];simp
    . rw[show((y.pl:Int)==(x.pl:Int))=false from beq_eq_false_iff_ne.2 e1];simp
   rw[esN,bQ,hk,wX,Bb fun z hz=>h z (by simp[hz])];rfl
noncomputable def L14:MC:=wq 0 m14
def S14 (q:PF)(p:List Sp)(r:List Rd)(f:Bool)(l:List Rf)(i:Nat):St :=
 ⟨[.set 17 (i64 (i:Int)),.set 16 (i64 (l.length:Int)),.set 15 (.lst f yA8 (rfs l)),.set 7 (.mp 14),.set 6 (i64 (dm p p.length)),.set 2 (.ptr 2 []),.set 1 (.lst f yA8 (rfs l))],[(14,.mp (esN 0 (l.take i)) i),(2,.fix sPl (plV q p r))]⟩
section
variable {d :Nat} {q:PF} {p:List Sp} {r:List Rd} {f:Bool} {l:List Rf} {W sent:Int} (hq:PFOk q p r) (hk:PK p r) (hp:p.length<=49) (hr:r.length<=1500) (hl:(l.length:Int)<=dm p p.length-sent) (h0:l.length<=100000) (hs:0<=sent/\sent<=1000000)
 (hc:∀x∈l,RfC p r x/\x.wn=W/\x.sent=sent) (hn:l.Pairwise Nm)
include hq hk hp hr hl h0 hs hc hn
theorem Q7 {i:Nat}(hi:i<l.length):aK K14 (evC gl (call gl tab (d+6)) L14 (S14 q p r f l i))=some (S14 q p r f l (i+1)):=by
 obtain⟨x,hx⟩:∃x,l[i]? =some x:=⟨_,wH hi⟩;obtain⟨y,hy⟩:∃y,l[0]? =some y:=⟨_,wH (show 0<l.length by omega)⟩;obtain⟨hx1,hx2,hx3⟩:=hc x (wJ hx);obtain⟨_,hy2,_⟩:=hc y (wJ hy);have c11:=@mS gl (d+6) q p r hq hk hp hr x hx1.sl (by omega) hx1.i hx1.kd hx1.nn hx1.w hx1.ck hx1.h1 hx1.h0 hx1.b hx1.d hx1.m;have x1:=H3 hx;have x0:=H3 hy;have hb:=GN hk.ok.cp p.length (wD _);have etk:l.take (i+1)=l.take i++[x]:=by rw[List.take_add_one,hx];rfl
 have e1:=EB x 0 (l.take i);rw[<-etk,wO,wE (by omega),Nat.zero_add]at e1;have hf:=@Bb x (l.take i) 0 fun z hz=>by obtain⟨t,ht,rfl⟩:=List.getElem_of_mem hz;rw[wO]at ht;have hp:=List.pairwise_iff_getElem.1 hn t i (by omega) hi (by omega);rw[wH hi]at hx;rw[List.getElem_take];rw[Option.some.inj hx]at hp;exact hp
 have rl:=gk l;have b1:(x.wn != y.wn)=false:=by rw[hx2,hy2];simp
 have b2:decide ((i:Int)>=dm p p.length-x.sent)=false:=decide_eq_false (by omega);have hsl:=hx1.sl;unfold S14;rw[e1];simp(disch:=apply zq;omega) only[go_sem,simprocAttr,↓wB,xx,L14,x1,x0,rl,c11,hf,b1,b2,hsl.len,hsl.a,hsl.i]
theorem Un (h:7<=n):call gl tab n 14 [plV q p r,.lst f yA8 (rfs l)] []=some (.tup [i64 (-1),i64 0],[],[]):=by
 obtain⟨d,rfl⟩:=wC h;have hst:=fun i hi=>@Q7 gl d q p r f l W sent hq hk hp hr hl h0 hs hc hn i hi
 simp only[L14,wq,K14]at hst;have c23:=@me gl (d+6) q p r hq hk (by omega);have rl:=gk l;rw[au (fd:=TI) rfl];simp(disch:=apply zq;omega) only[go_sem,simprocAttr,↓wB,xx,TI,m14,c23,rl];rw[aE (S14 q p r f l) l.length (by unfold LF;omega)]
 . simp(disch:=apply zq;omega) only[go_sem,simprocAttr,↓wB,xx,S14]
 . simp(disch:=apply zq;omega) only[go_sem,simprocAttr,↓wB,xx,S14,rl,List.take_zero,esN]
 . exact hst
 . simp(disch:=apply zq;omega) only[go_sem,simprocAttr,↓wB,xx,S14]
end
theorem Js (h:1<=n){x:Int}(hx:0<=x/\x<=1000):call gl tab n 10 [i64 x] []=some (kyV (1000+x) 1 [115] 0 1099511627776,[],[]):=by obtain⟨d,rfl⟩:=wC h;rw[au (fd:=TM) rfl];simp(disch:=apply zq;omega) only[go_sem,simprocAttr,↓wB,xx,TM,m10]
abbrev q0 :PF:=⟨true,yA3,true,yA4⟩
theorem Iz :PFOk q0 p0 r0:=⟨.inr rfl,.inr rfl⟩
set_option maxHeartbeats 1000000 in
theorem LC [Nonempty (H.GlK gl)](h:62<=n):call gl tab n 5 [] []=some (.bool true,[],[]):=by
 obtain⟨d,rfl⟩:=wC h;obtain⟨fl,pr,sent,cut,hs,c6⟩:=@Ef gl (d+61) q0 p0 r0 Iz pk0 (by decide) (by decide) (by omega);obtain⟨w,e1,w1,w2,w3,w4⟩:=PN (net p0 r0) fl pr sent cut;rw[e1]at c6;rw[dm0]at hs;obtain⟨hsent,hf0⟩:=UJ Iz hs;have hco:=Lj Iz pk0 (by decide) (by decide) hs (by omega);have hcne:cut≠[]:=fun e=>by have:=hco.h0;rw[e]at this;cases this
 obtain⟨sl,hsl,c13⟩:=@Ag gl (d+61) _ (by omega) q0 p0 r0 Iz pk0 (by decide) (by decide) sent fl pr cut (by rw[dm0];exact hs) w w1 w2 w3 w4 hcne
  ⟨1001,1,[115],0,1099511627776⟩ ⟨by decide,by decide,by decide,by decide,by decide⟩ 0 (by decide) (by decide) (by decide) 2 5 5000 5001 (by omega) (by decide) (by decide) (by decide) (by decide) (by decide)
 have c16:call gl tab (d+61) 11 [plV q0 p0 r0,rfV ⟨0,2,5,sent,false,cut,5000,5001,1,sl⟩] []=some (i64 0,[],[]):=by
  refine mS Iz pk0 (by decide) (by decide) (x:=⟨0,2,5,sent,false,cut,5000,5001,1,sl⟩) hsl (by omega) ?_ ?_ ?_ ?_ hco.ck hco.h1 hco.h0 hco.b ?_ ?_
  . show 0<3;decide
  . show(spt p0 0).kd=1;decide
  . show(0:Int)<=2/\(2:Int)<(spt p0 0).cp;decide
  . show(0:Int)<=5/\(5:Int)<=1099511627776;decide
  . show sent<dm p0 p0.length;rw[dm0];omega
  . exact hco.m 0 (by decide) (by decide) (by rw[hf0];decide)
 have c14:=@Js gl (d+61) (by omega) 1 (by decide);have c11:=@C.newBank_at gl (d+61) (by omega) 2 1000;have hv:C.VB 2 1000 []:=C.bi_vb (C.bi_0 5) (by omega) (by omega) (by omega) (by simp);rw[if_pos hv,if_pos hv]at c11;obtain⟨l',_,_,_,c12,c15⟩:=@C.deal_bi gl (d+61) (by omega) 5 2 0 [] (C.bi_0 5) (by omega) (by omega) (by simp) true .sc (.inl rfl) 10 2 (by omega) (by omega) (by omega) (fun y h=>by cases h);simp only[C.bank]at c11 c12 c15;generalize C.rows l'=rl at *
 simp only[C.rows,List.map_nil]at c11 c12;have ep:plV q0 p0 r0= .agg [.lst true yA3 [.agg [i64 1,i64 1,i64 3],.agg [i64 2,i64 10,i64 9],.agg [i64 3,i64 7,i64 2]],.lst true yA4 [.agg [i64 0,i64 1,i64 9,i64 1],.agg [i64 1,i64 2,i64 9,i64 1]]]:=rfl;rw[ep]at c6 c13 c16;have ek:kyV (1000+1) 1 [115] 0 1099511627776=kyV 1001 1 [115] 0 1099511627776:=rfl;rw[ek]at c14;simp only[rfV,Int.natCast_zero]at c13 c16;have es:(w.s==2)=true:=by rw[w1,hsent];rfl
 rw[au (fd:=fd5) rfl];simp(disch:=apply zq;omega) only[go_sem,simprocAttr,↓wB,xx,fd5,m5,c6,c11,c12,c13,c14,c15,c16,es,hsl.len,hsl.a,hsl.i]
end Go.Proofs.S51
namespace Go.Proofs.S51.P
open Go Go.Ev Go.Proofs Go.Fl
variable {gl :Gl} {n:Nat}
noncomputable def Uy:MC:=wq 0 RZ
def DB (g:Nt)(b:Bool)(sh:Sh)(f:Bool)(s:Sh)(fl:List Int)(k:Nat):St :=
 ⟨[.set 14 (i64 (k:Int)),.set 13 (i64 (g.a.length:Int)),.set 12 (.lst b sh (rs g.a)),.set 5 (.sl 10 [] 0 g.n),.set 1 (.lst f s (ns fl))],[(10,.grow .sc (ns (gvL g fl k)))]⟩
noncomputable def L90:MC:=wq 0 m90
noncomputable def LM:MC:=wq 2 m90
def S90 (g:Nt)(b:Bool)(sh:Sh)(f:Bool)(s:Sh)(fl:List Int)(k:Nat):St :=
 ⟨[.set 28 (i64 (k:Int)),.set 27 (i64 (g.a.length:Int)),.set 26 (.lst f s (ns fl)),.set 4 (.ptr 4 []),.set 3 (.lst f s (ns fl)),.set 2 (i64 1),.set 1 (i64 0)],[(4,.fix sNt (nV g b sh))]⟩
def zo (g:Nt)(fl:List Int)(k:Nat):St :=
 ⟨[.set 50 (i64 (k:Int)),.set 49 (i64 (g.n:Int)),.set 48 (.lst false .sc (ns (gvL g fl g.a.length))),.set 2 (i64 1),.set 1 (i64 0)],[]⟩
section
variable {d :Nat} {g:Nt} {b:Bool} {sh:Sh} {f:Bool} {s:Sh} {fl:List Int} (hg:GOk g) (hsh:g.a=[]\/sh=yA4) (hf:FB g fl) (hs:s= .sc)
include hg hsh hf hs
theorem MD {k:Nat}(hk:k<g.a.length):aK XD (evC gl (call gl tab d) Uy (DB g b sh f s fl k))=some (DB g b sh f s fl (k+1)):=by
 have hfl:=PQ hg hsh hf;have hsh:sh=yA4:=hsh.resolve_left (fun e=>by rw[e]at hk;simp at hk);subst hsh hs;have x1:=dY hk;have x2:=bc (show k<fl.length by rw[hf.l];exact hk);have h1:=hg.ok.f k hk;have h2:=hg.ok.t k hk;have h3:=hg.ok.ne k hk;have hb1:=@tB g fl (art g.a k).f hfl k (by omega);have hb2:=@tB g fl (art g.a k).t hfl k (by omega);have ha:=hg.a;have hn:=hg.n;have hfk:=hfl k hk;have eg:=AM (g:=g) (fl:=fl) (k:=k) h1 h2 h3;have x3:=bc (l:=gvL g fl k) (show(art g.a k).f<_ by rw[dG];exact h1);have x4:=bc (l:=gvL g fl k) (show(art g.a k).t<_ by rw[dG];exact h2);rw[nh h1]at x3;rw[nh h2]at x4;have x5:∀y,((ns (gvL g fl k)).set (art g.a k).f y)[(art g.a k).t]? =some (i64 (giv g.a fl (art g.a k).t k)):=fun y=>by rw[wT h3];exact x4
 have gl1:=dG g fl k;unfold DB;rw[eg];generalize giv g.a fl (art g.a k).f k=z1 at *
 generalize giv g.a fl (art g.a k).t k=z2 at *
 generalize gvL g fl k=G at *
 generalize nth fl k=xk at *
 simp(disch:=apply zq;omega) only[go_sem,simprocAttr,↓wB,xx,Uy,ak,ae,x1,x2,x3,x5,hf.l,fB,gl1,wW]
theorem AS (h:1<=n):call gl tab n 117 [nV g b sh,.lst f s (ns fl)] []=some (.lst false .sc (ns (gvL g fl g.a.length)),[],[]):=by
 obtain⟨d,rfl⟩:=wC h;have hs1:=fun i hi=>@MD gl d g b sh f s fl hg hsh hf hs i hi
 simp only[Uy,wq]at hs1;have ha:=hg.a;have hn:=hg.n;have l1:g.n<=LIM:=by unfold LIM;omega
 have hz:=yb g.n 0;have e0:gvL g fl 0=List.replicate g.n 0:=by
  unfold gvL;apply List.ext_getElem
  . simp
  . intro v h1 h2;simp[giv]
 have gl1:=dG g fl g.a.length;have e1:List.take g.n (ns (gvL g fl g.a.length))=ns (gvL g fl g.a.length):=wR (by rw[ae,gl1];omega);rw[au (fd:=KF) rfl];simp(disch:=apply zq;omega) only[go_sem,simprocAttr,↓wB,xx,KF,RZ,ak,ae,l1,hz];rw[aE (DB g b sh f s fl) g.a.length (by unfold LF;omega)]
 . simp(disch:=apply zq;omega) only[go_sem,simprocAttr,↓wB,xx,DB,ak,ae,gl1,e1,bH]
 . simp(disch:=apply zq;omega) only[go_sem,simprocAttr,↓wB,xx,DB,e0]
 . exact hs1
 . simp(disch:=apply zq;omega) only[go_sem,simprocAttr,↓wB,xx,DB,ak]
theorem Hq (h:2<=n){v:Nat}(hv:v<g.n):call gl tab n 91 [nV g b sh,i64 (v:Int),.lst f s (ns fl)] []=some (i64 (giv g.a fl v g.a.length),[],[]):=by obtain⟨d,rfl⟩:=wC h;have c1:=@AS gl (d+1) g b sh f s fl hg hsh hf hs (by omega);have x1:=bc (l:=gvL g fl g.a.length) (show v<_ by rw[dG];exact hv);rw[nh hv]at x1;have gl1:=dG g fl g.a.length;rw[au (fd:=SQ) rfl];simp(disch:=apply zq;omega) only[go_sem,simprocAttr,↓wB,xx,SQ,m91,c1,x1,ae,gl1]
theorem QD {k:Nat}(hk:k<g.a.length):aK Xt (evC gl (call gl tab d) L90 (S90 g b sh f s fl k))=some (S90 g b sh f s fl (k+1)):=by have hsh:sh=yA4:=hsh.resolve_left (fun e=>by rw[e]at hk;simp at hk);subst hsh hs;have x1:=dY hk;have x2:=bc (show k<fl.length by rw[hf.l];exact hk);have hb:=hf.b k hk;have ha:=hg.a;simp(disch:=apply zq;omega) only[go_sem,simprocAttr,↓wB,xx,L90,S90,ak,ae,x1,x2,hf.l]
theorem Mn {k:Nat}(hk:k<g.n){w:Int}(hw:0<=w)(hgv:∀v,giv g.a fl v g.a.length=(if v=0 then w else 0)-(if v=1 then w else 0)):aK Xs (evC gl (call gl tab d) LM (zo g fl k))=some (zo g fl (k+1)):=by
 have hn:=hg.n;have x3:=bc (l:=gvL g fl g.a.length) (show k<_ by rw[dG];exact hk);rw[nh hk,hgv]at x3;have gl1:=dG g fl g.a.length;by_cases e1:k=0
 . subst e1;rw[if_pos rfl,if_neg (by omega)]at x3;simp(disch:=apply zq;omega) only[go_sem,simprocAttr,↓wB,xx,LM,zo,ae,gl1,x3]
 . have b2:((k:Int) != 0)=true:=by simp;omega
   have b3:((k:Int)==0)=false:=by rw[beq_eq_false_iff_ne];omega
   rw[if_neg e1]at x3;by_cases e2:k=1
   . subst e2;rw[if_pos rfl]at x3;simp(disch:=apply zq;omega) only[go_sem,simprocAttr,↓wB,xx,LM,zo,ae,gl1,x3]
   . rw[if_neg e2]at x3;have b4:((k:Int) != 1)=true:=by simp;omega
     have b5:((0:Int)-0 != 0)=false:=by decide
     simp(disch:=apply zq;omega) only[go_sem,simprocAttr,↓wB,xx,LM,zo,ae,gl1,x3,b2,b3,b4,b5]
theorem Gz (h:2<=n)(h2:2<=g.n){w:Int}(hw:0<=w)(hgv:∀v,giv g.a fl v g.a.length=(if v=0 then w else 0)-(if v=1 then w else 0)) :
  call gl tab n 90 [nV g b sh,i64 0,i64 1,.lst f s (ns fl)] []=some (i64 0,[],[]):=by
 obtain⟨d,rfl⟩:=wC h;have c1:=@AS gl (d+1) g b sh f s fl hg hsh hf hs (by omega);have hs1:=fun i hi=>@QD gl (d+1) g b sh f s fl hg hsh hf hs i hi
 have hs2:=fun i hi=>@Mn gl (d+1) g sh s fl hg hsh hf hs i hi w hw hgv
 simp only[L90,LM,wq]at hs1 hs2;have ha:=hg.a;have hn:=hg.n;have hl:=hf.l;have gl1:=dG g fl g.a.length;have c0:call gl tab (d+1) 116 [nV g b sh,i64 0,i64 1] []=some (.bool true,[],[]):=by rw[au (fd:=KG) rfl];simp(disch:=apply zq;omega) only[go_sem,simprocAttr,↓wB,xx,KG,Ve,fL,ka,mI,wX]
 have b0:((g.a.length:Int) != (g.a.length:Int))=false:=by simp
 rw[au (fd:=SS) rfl];simp(disch:=apply zq;omega) only[go_sem,simprocAttr,↓wB,xx,SS,m90,ak,ae,hl,b0,c0,c1,gl1];rw[aE (S90 g b sh f s fl) g.a.length (by unfold LF;omega)]
 . simp(disch:=apply zq;omega) only[go_sem,simprocAttr,↓wB,xx,S90,ak,ae,gl1,c1,hl];rw[aE (zo g fl) g.n (by unfold LF;omega)]
   . simp(disch:=apply zq;omega) only[go_sem,simprocAttr,↓wB,xx,zo,ae,gl1]
   . simp(disch:=apply zq;omega) only[go_sem,simprocAttr,↓wB,xx,zo]
   . exact hs2
   . simp(disch:=apply zq;omega) only[go_sem,simprocAttr,↓wB,xx,zo,ae,gl1]
 . simp(disch:=apply zq;omega) only[go_sem,simprocAttr,↓wB,xx,S90]
 . exact hs1
 . simp(disch:=apply zq;omega) only[go_sem,simprocAttr,↓wB,xx,S90,ae,hl]
end
noncomputable def L92:MC:=wq 0 m92
def S92 (f:Bool)(s:Sh)(l:List Nat)(c:Nat)(cs:List AV)(i:Nat):St :=
 ⟨[.set 8 (i64 (i:Int)),.set 7 (i64 (l.length:Int)),.set 1 (.fn c cs),.set 0 (.lst f s (us l))],[]⟩
structure Fn1 (gl:Gl)(d c:Nat)(cs:List AV)(l:List Nat)(P:Nat->Prop):Prop where
 lt:c<2000000
 ld:∀hp,bw (aW hp 4) cs=some cs
 l3:∀hp,bw (aW hp 3) cs=some cs
 rf:AV.refss cs=[]
 at_:∀x∈l,∃b:Bool,(b=true↔P x)/\call gl tab d c (i64 (x:Int)::cs) []=some (.bool b,[],[])
section
variable {d c:Nat} {cs:List AV} {f:Bool} {s:Sh} {l:List Nat} {P:Nat->Prop} (hl:l.length<=100000) (hs:s= .sc) (hf:Fn1 gl d c cs l P)
include hl hs hf
theorem QB {i x:Nat}(hx:l[i]? =some x)(hn:¬P x):aK K92 (evC gl (call gl tab d) L92 (S92 f s l c cs i))=some (S92 f s l c cs (i+1)):=by
 subst hs;have hi:=(wK.1 hx).1;obtain⟨b,hb,c1⟩:=hf.at_ x (wJ hx);have:b=false:=by cases b with|false=>rfl|true=>exact absurd (hb.1 rfl) hn
 subst this;have x1:=dy hx;have hlt:=hf.lt;simp(disch:=apply zq;omega) only[go_sem,simprocAttr,↓wB,xx,L92,S92,aj,x1,hf.ld,hf.rf,c1]
theorem VI {i x:Nat}(hx:l[i]? =some x)(hp:P x):∃st,evC gl (call gl tab d) L92 (S92 f s l c cs i)=some (.ret,st)/\st.fr.get 4=i64 (i:Int)/\st.hp=[]:=by subst hs;have hi:=(wK.1 hx).1;obtain⟨b,hb,c1⟩:=hf.at_ x (wJ hx);have:b=true:=hb.2 hp;subst this;have x1:=dy hx;have hlt:=hf.lt;simp(disch:=apply zq;omega) only[go_sem,simprocAttr,↓wB,xx,L92,S92,aj,x1,hf.ld,hf.rf,c1];exact⟨_,rfl,rfl,rfl⟩
theorem tv :∃k,k<=l.length/\(∀j x,j<k->l[j]? =some x->¬P x)/\(∀x,l[k]? =some x->P x) /\
  call gl tab (d+1) 92 [.lst f s (us l),.fn c cs] []=some (i64 (if k<l.length then(k:Int)else -1),[],[]):=by
 have hs1:=fun i x hx hn=>@QB gl d c cs f s l P hl hs hf i x hx hn
 have hs2:=fun i x hx hp=>@VI gl d c cs f s l P hl hs hf i x hx hp
 have hlt:=hf.lt;simp only[L92,wq]at hs1 hs2;obtain⟨k,hk,hb,ha,hit⟩:=pE (f:=evC gl (call gl tab d) L92) (ks:=K92) (S92 f s l c cs) l.length (fun i=>∀x,l[i]? =some x->¬P x) (by unfold LF;omega)
  (fun i hi _ hp=>by
    have hx:l[i]? =some l[i]:=wH hi;simp only[L92,wq];exact hs1 i _ hx (hp _ hx))
  (fun i hi _ hp=>by
    obtain⟨x,hx⟩:=wY.1 hp;obtain⟨hx,hq⟩:=w0.1 hx;obtain⟨st,h1,_⟩:=hs2 i x hx (wZ.1 hq);simp only[L92,wq];rw[h1];rfl)
  (fun _=>by simp(disch:=apply zq;omega) only[go_sem,simprocAttr,↓wB,xx,L92,S92,aj])
 refine⟨k,hk,fun j x hj hx=>hb j hj x hx,fun x hx=> ?_,?_⟩
 . have hkl:=(wK.1 hx).1;have:=ha hkl;obtain⟨y,hy⟩:=wY.1 this;obtain⟨hy,hq⟩:=w0.1 hy;rw[hx]at hy;cases hy;exact wZ.1 hq
 . simp only[L92,wq]at hit;rw[au (fd:=Kf) rfl];simp(disch:=apply zq;omega) only[go_sem,simprocAttr,↓wB,xx,Kf,m92,aj];rw[hit _ (by simp(disch:=apply zq;omega) only[go_sem,simprocAttr,↓wB,xx,S92,aj,hf.rf])];by_cases hkl:k<l.length
   . have hx:l[k]? =some l[k]:=wH hkl;have hq:P l[k]:=by have:=ha hkl;obtain⟨y,hy⟩:=wY.1 this;obtain⟨hy,hq⟩:=w0.1 hy;rw[hx]at hy;cases hy;exact wZ.1 hq
     obtain⟨st,h1,h2,h3⟩:=hs2 k _ hx hq;rw[h1,if_pos hkl];simp(disch:=apply zq;omega) only[go_sem,simprocAttr,↓wB,xx,h2,h3]
   . have:k=l.length:=by omega
     subst this;rw[if_neg hkl];simp(disch:=apply zq;omega) only[go_sem,simprocAttr,↓wB,xx,S92,aj]
end
noncomputable def L95:MC:=wq 0 m95
noncomputable def Us:MC:=wq 2 m95
section
variable {d N:Nat} {fl:List Int} {W w:List Nat} {o:Nat} (hN:fl.length=N/\N<=4000) (hW:W.drop o=w) (hl:W.length<=100000) (hb:∀i∈w,i<N) (hf:∀i,-1073741824<=nth fl i/\nth fl i<=1073741824)
def S95 (fl:List Int)(W w:List Nat)(o:Nat)(m:Int)(k:Nat):St :=
 ⟨[.set 18 (i64 (k:Int)),.set 17 (i64 (w.length:Int)),.set 16 (.sl 100001 [] o w.length),.set 5 (i64 (lew fl (w.take k) m)),.set 1 (.sl 100001 [] o w.length),.set 0 (.sl 100000 [] 0 fl.length)],
   [(100001,.grow .sc (us W)),(100000,.grow .sc (ns fl))]⟩
def Dv (fl:List Int)(W w:List Nat)(o:Nat)(m:Int)(k:Nat):St :=
 ⟨[.set 31 (i64 (k:Int)),.set 30 (i64 (w.length:Int)),.set 29 (.sl 100001 [] o w.length),.set 5 (i64 m),.set 0 (.sl 100000 [] 0 fl.length)],
   [(100001,.grow .sc (us W)),(100000,.grow .sc (ns (sbw m (w.take k) fl)))]⟩
include hN hW hl hb
theorem Qf {k x:Nat}(hx:w[k]? =some x):(us W)[o+k]? =some (i64 (x:Int)):=dy (by rw[<-hW]at hx;rw[List.getElem?_drop]at hx;exact hx)
theorem w_ln (h0:0<w.length):o+w.length=W.length:=by have:=congrArg List.length hW;rw[List.length_drop]at this;omega
theorem QA {m:Int}{k x:Nat}(hx:w[k]? =some x):aK K95 (evC gl (call gl tab d) L95 (S95 fl W w o m k))=some (S95 fl W w o m (k+1)):=by
 have hk:=(wK.1 hx).1;have hxN:=hb x (wJ hx);have x1:=Qf hN hW hl hb hx;have x2:=bc (show x<fl.length by omega);have hln:=w_ln hN hW hl hb (by omega);have e1:lew fl (w.take (k+1)) m=mi (lew fl (w.take k) m) (nth fl x):=by rw[wP,hx];exact AB ..
 have e2:(if nth fl x<lew fl (w.take k) m then nth fl x else lew fl (w.take k) m)=mi (lew fl (w.take k) m) (nth fl x):=rfl;unfold S95;rw[e1];generalize lew fl (w.take k) m=z at *
 simp(disch:=apply zq;omega) only[go_sem,simprocAttr,↓wB,xx,L95,aj,ae,x1,x2,fL,ka,wX,e2]
theorem Mm (hn:w.Nodup){m:Int}(hm:-1073741824<=m/\m<=1073741824){k x:Nat}(hx:w[k]? =some x)(hfx:-1073741824<=nth fl x/\nth fl x<=1073741824) :
  aK Xr (evC gl (call gl tab d) Us (Dv fl W w o m k))=some (Dv fl W w o m (k+1)):=by
 have hk:=(wK.1 hx).1;have hxN:=hb x (wJ hx);have x1:=Qf hN hW hl hb hx;have hsl:=jA m (w.take k) fl;have x2:=bc (l:=sbw m (w.take k) fl) (show x<_ by rw[hsl];omega);have hln:=w_ln hN hW hl hb (by omega);have hnx:x∉w.take k:=fun h=>by obtain⟨j,hj,e⟩:=List.mem_take_iff_getElem.1 h;have:=(wK.1 hx).2;have:=(List.getElem_inj hn).1 (e.trans this.symm);omega
 have e1:sbw m (w.take (k+1)) fl=(sbw m (w.take k) fl).set x (nth (sbw m (w.take k) fl) x-m):=by rw[wP,hx];exact zS ..
 have e2:nth (sbw m (w.take k) fl) x=nth fl x:=by rw[og m (hn.sublist (List.take_sublist ..)) (fun i hi=>by have:=hb i (List.mem_of_mem_take hi);omega),if_neg hnx];omega
 unfold Dv;rw[e1];rw[e2]at x2 ⊢;generalize sbw m (w.take k) fl=z at *
 simp(disch:=apply zq;omega) only[go_sem,simprocAttr,↓wB,xx,Us,aj,ae,x1,x2,hsl,fB]
theorem take_at (h0:0<w.length)(hn:w.Nodup)(hf:∀i∈w,-1073741824<=nth fl i/\nth fl i<=1073741824) :
  call gl tab (d+1) 95 [.sl 100000 [] 0 N,.sl 100001 [] o w.length] [(100000,.grow .sc (ns fl)),(100001,.grow .sc (us W))] =
   some (i64 (lew fl w (nth fl (w.headD 0))),[(100000,.grow .sc (ns (sbw (lew fl w (nth fl (w.headD 0))) w fl))),(100001,.grow .sc (us W))],[]):=by
 obtain⟨x,hx⟩:∃x,w[0]? =some x:=⟨_,wH h0⟩;have hh:w.headD 0=x:=by cases w with|nil=>cases hx|cons a l=>simpa using hx
 have hxN:=hb x (wJ hx);have x0:=Qf hN hW hl hb hx;rw[wG]at x0;have x2:=bc (show x<fl.length by omega);have hln:=w_ln hN hW hl hb h0;rw[hh];have hm:-1073741824<=lew fl w (nth fl x)/\lew fl w (nth fl x)<=1073741824:=by
  rcases yj fl w (nth fl x)with e|⟨i,hi,e⟩
  . rw[e];exact hf x (wJ hx)
  . rw[e];exact hf i hi
 have hs1:=fun k x' hx'=>@QA gl d N fl W w o hN hW hl hb (nth fl x) k x' hx'
 have hs2:=fun k x' hx'=>@Mm gl d N fl W w o hN hW hl hb hn (lew fl w (nth fl x)) hm k x' hx' (hf x' (wJ hx'))
 simp only[L95,Us,wq]at hs1 hs2;obtain⟨e1,e2⟩:=hN;subst e1;have hsl:=jA (lew fl w (nth fl x)) w fl;rw[bf (fd:=SN) rfl];simp(disch:=apply zq;omega) only[go_sem,simprocAttr,↓wB,xx,SN,m95,aj,ae,x0,x2];rw[aE (S95 fl W w o (nth fl x)) w.length (by unfold LF;omega)]
 . simp(disch:=apply zq;omega) only[go_sem,simprocAttr,↓wB,xx,S95,aj,ae,wN];rw[aE (Dv fl W w o (lew fl w (nth fl x))) w.length (by unfold LF;omega)]
   . simp(disch:=apply zq;omega) only[go_sem,simprocAttr,↓wB,xx,Dv,aj,ae,wN,hsl]
   . simp(disch:=apply zq;omega) only[go_sem,simprocAttr,↓wB,xx,Dv,sbw]
   . exact fun i hi=>hs2 i _ (wH hi)
   . simp(disch:=apply zq;omega) only[go_sem,simprocAttr,↓wB,xx,Dv,aj]
 . simp(disch:=apply zq;omega) only[go_sem,simprocAttr,↓wB,xx,S95,lew]
 . exact fun i hi=>hs1 i _ (wH hi)
 . simp(disch:=apply zq;omega) only[go_sem,simprocAttr,↓wB,xx,S95,aj]
end
abbrev kpt (p:Nat->Bool)(l:List Nat):List Nat:=l.filter fun x=> !p x
def dl (p:Nat->Bool)(W:List Nat):Nat->List Nat
 | 0=>W
 | j+1=>if p (W.getD j 0)=true then dl p W j else(dl p W j).set (kpt p (W.take j)).length (W.getD j 0)
theorem lY (p:Nat->Bool)(W:List Nat)(j:Nat):(kpt p (W.take j)).length<=j:=by have h1:(kpt p (W.take j)).length<=(W.take j).length:=List.length_filter_le ..;have h2:=List.length_take_le j W;omega
theorem uc (p:Nat->Bool)(W:List Nat):∀j,(dl p W j).length=W.length
 | 0=>rfl
 | j+1=>by
   rw[dl];split
   . exact uc p W j
   . rw[wW];exact uc p W j
theorem Da {p:Nat->Bool}{W:List Nat}{i:Nat}:∀{j},j<=i->(dl p W j)[i]? =W[i]?
 | 0,_=>rfl
 | j+1,h=>by
   rw[dl];split
   . exact Da (by omega)
   . have:=lY p W j;rw[wT (by omega)];exact Da (by omega)
theorem vn {W:List Nat}{j:Nat}(h:j<W.length):W.take (j+1)=W.take j++[W.getD j 0]:=by rw[wP,wH h,wM,wH h];rfl
theorem ou {p:Nat->Bool}{W:List Nat}{j:Nat}(h:j<W.length):kpt p (W.take (j+1))=if p (W.getD j 0)=true then kpt p (W.take j)else kpt p (W.take j)++[W.getD j 0]:=by rw[vn h,kpt,List.filter_append];generalize W.getD j 0=x;cases hp:p x<;>simp[hp]
theorem EG {p:Nat->Bool}{W:List Nat}:∀{j},j<=W.length->(dl p W j).take (kpt p (W.take j)).length=kpt p (W.take j)
 | 0,_=>by simp[kpt]
 | j+1,h=>by
   have ih:=EG (p:=p) (W:=W) (j:=j) (by omega);rw[ou (by omega),dl];split
   . exact ih
   . have:=lY p W j;rw[wQ,wS];have hl:=uc p W j;rw[wP,List.getElem?_set_self (by omega),List.take_set_of_le (wD _),ih];rfl
theorem yo {p:Nat->Bool}{W:List Nat}{k:Nat}(h:∀j x,j<k->W[j]? =some x->¬p x=true):∀j,j<=k->j<=W.length->kpt p (W.take j)=W.take j
 | 0,_,_=>by simp[kpt]
 | j+1,h1,h2=>by
   have hx:W[j]? =some (W.getD j 0):=by rw[wM,wH (by omega)];rfl
   rw[ou (by omega),if_neg (h j _ (by omega) hx),yo h j (by omega) (by omega),vn (by omega)]
theorem K6 {p:Nat->Bool}{W:List Nat}{k:Nat}(h:∀j x,j<k->W[j]? =some x->¬p x=true):∀j,j<=k->j<=W.length->dl p W j=W
 | 0,_,_=>rfl
 | j+1,h1,h2=>by
   have hx:W[j]? =some (W.getD j 0):=by rw[wM,wH (by omega)];rfl
   rw[dl,if_neg (h j _ (by omega) hx),K6 h j (by omega) (by omega),yo h j (by omega) (by omega),wO,wE (by omega)];rw[wM,wH (by omega),Option.getD_some,List.set_getElem_self]
noncomputable def L64:MC:=wq 0 m64
def S64 (p:Nat->Bool)(W:List Nat)(c:Nat)(cs:List AV)(j:Nat):St :=
 ⟨[.set 6 (i64 (j:Int)),.set 5 (i64 ((kpt p (W.take j)).length:Int)),.set 1 (.fn c cs),.set 0 (.sl 100000 [] 0 W.length)],[(100000,.grow .sc (us (dl p W j)))]⟩
theorem Qh (l:List Nat)(i x:Nat):us (l.set i x)=(us l).set i (i64 (x:Int)):=by simp[us]
section
variable {d c:Nat} {cs:List AV} {W:List Nat} {p:Nat->Bool} (hl:W.length<=100000) (hf:Fn1 gl d c cs W (fun x=>p x=true))
include hl hf
theorem QO {j:Nat}(hj:j<W.length):aK K64 (evC gl (call gl tab d) L64 (S64 p W c cs j))=some (S64 p W c cs (j+1)):=by
 have hx:W[j]? =some (W.getD j 0):=by rw[wM,wH hj];rfl
 obtain⟨b,hb,c1⟩:=hf.at_ _ (wJ hx);have hlt:=hf.lt;have x1:=dy ((Da (p:=p) (wD j)).trans hx);have hdl:=uc p W j;have hkl:=lY p W j;unfold S64;rw[ou hj,dl];generalize W.getD j 0=x at *
 generalize kpt p (W.take j)=F at *
 generalize dl p W j=C at *
 cases b with
 | false =>
   have:¬p x=true:=fun h=>by cases hb.2 h
   rw[if_neg this,if_neg this,Qh];have x2:=dy (l:=C) (i:=F.length) (wH (by omega));simp(disch:=apply zq;omega) only[go_sem,simprocAttr,↓wB,xx,L64,aj,x1,x2,hf.ld,hf.rf,c1,hdl,wQ,wS]
 | true =>have:p x=true:=hb.1 rfl;rw[if_pos this,if_pos this];simp(disch:=apply zq;omega) only[go_sem,simprocAttr,↓wB,xx,L64,aj,x1,hf.ld,hf.rf,c1,hdl]
end
section
variable {d c:Nat} {cs:List AV} {W:List Nat} {p:Nat->Bool} (hl:W.length<=100000) (hf:∀d',d<=d'->Fn1 gl d' c cs W (fun x=>p x=true))
include hl hf
theorem GP :∃C,C.length=W.length/\C.take (kpt p W).length=kpt p W /\
  call gl tab (d+2) 64 [.sl 100000 [] 0 W.length,.fn c cs] [(100000,.grow .sc (us W))]=some (.sl 100000 [] 0 (kpt p W).length,[(100000,.grow .sc (us C))],[]):=by
 have hf1:=hf (d+1) (by omega);have hf:=hf d (wD d);have hlt:=hf.lt;obtain⟨k,hk,hb,ha,c1⟩:=@tv gl d c cs false .sc W (fun x=>p x=true) hl rfl hf;have hkk:=yo hb k (wD _) hk;have eu:List.take W.length (us W)=us W:=wR (by rw[aj];omega);by_cases hkl:k<W.length
 . rw[if_pos hkl]at c1;have hx:W[k]? =some W[k]:=wH hkl;have hp:=ha _ hx;have eD:W.getD k 0=W[k]:=by rw[wM,hx];rfl
   have hs:=fun j hj=>@QO gl (d+1) c cs W p hl hf1 j hj
   simp only[L64,wq]at hs;have e0:kpt p (W.take (k+1))=W.take k:=by rw[ou hkl,eD,if_pos hp,hkk]
   have e1:dl p W (k+1)=W:=by rw[dl,eD,if_pos hp,K6 hb k (wD _) hk]
   have eW:W.take W.length=W:=wN;have hkp:=lY p W W.length;have hdl:=uc p W W.length;have hdt:=EG (p:=p) (W:=W) (wD W.length);rw[eW]at hkp hdt;refine⟨kpt p W++List.replicate (W.length-(kpt p W).length) 0,by rw[wQ,List.length_replicate];omega,List.take_left ..,?_⟩;rw[bf (fd:=Kk) rfl];simp(disch:=apply zq;omega) only[go_sem,simprocAttr,↓wB,xx,Kk,m64,aj,eu,c1,hf.l3];rw[aE (fun t=>S64 p W c cs (k+1+t)) (W.length-(k+1)) (by unfold LF;omega)]
   . have e2:k+1+(W.length-(k+1))=W.length:=by omega
     rw[e2];simp(disch:=apply zq;omega) only[go_sem,simprocAttr,↓wB,xx,S64,aj,hdl,eW];have e3:List.drop ((kpt p W).length+(W.length-(kpt p W).length)) (us (dl p W W.length))=[]:=List.drop_of_length_le (by rw[aj,hdl];omega);have e4:List.take (kpt p W).length (us (dl p W W.length))=us (kpt p W):=by rw[us,<-List.map_take,hdt,us]
     have e5:us (kpt p W++List.replicate (W.length-(kpt p W).length) 0)=us (kpt p W)++List.replicate (W.length-(kpt p W).length) (.int .i64 0):=by simp[us]
     rw[e3,e4,e5,List.append_nil,Nat.sub_zero]
   . have hkn:(W.take k).length=k:=by rw[wO];omega
     simp(disch:=apply zq;omega) only[go_sem,simprocAttr,↓wB,xx,S64,e0,e1,hf.rf,hkn,wG]
   . exact fun i hi=>hs _ (by omega)
   . have e2:k+1+(W.length-(k+1))=W.length:=by omega
     rw[e2];simp(disch:=apply zq;omega) only[go_sem,simprocAttr,↓wB,xx,S64,aj,hdl,eW]
 . have:k=W.length:=by omega
   subst this;rw[if_neg (wF _)]at c1;have eW:W.take W.length=W:=wN;rw[eW]at hkk;refine⟨W,rfl,by rw[hkk];exact eW,?_⟩;rw[bf (fd:=Kk) rfl,hkk];simp(disch:=apply zq;omega) only[go_sem,simprocAttr,↓wB,xx,Kk,m64,aj,eu,c1,hf.l3]
end
end Go.Proofs.S51.P
