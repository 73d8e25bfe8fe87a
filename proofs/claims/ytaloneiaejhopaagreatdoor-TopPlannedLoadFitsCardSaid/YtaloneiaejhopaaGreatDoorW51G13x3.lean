/-
  Ways: the ways of a site, one after the other. No condition.
-/
import Derived.Test.YtaloneiaejhopaaGreatDoorW51G12x3
import Derived.Test.YtaloneiaejhopaaGreatDoorW51G9x3
import Derived.Test.YtaloneiaejhopaaGreatDoorW51G8x3
import Derived.Test.YtaloneiaejhopaaGreatDoorW51G11x3
import Derived.Test.YtaloneiaejhopaaGreatDoorW51G10x3
import Derived.Test.YtaloneiaejhopaaGreatDoorCards
import Derived.Test.YtaloneiaejhopaaGreatDoorTie
import Derived.ProofKit
import Derived.OpenShut
import Derived.Deep.DeepHandedRow
import Derived.Lib.LaidTab
import Derived.MakeChecks
set_option linter.all false
open Nat renaming reduceEqDiff->wB,le_refl->wC,exists_eq_add_of_le'->wD,not_lt_zero->wE,lt_or_ge->wF
open List renaming getElem?_eq_getElem->wG,getD_eq_getElem?_getD->wH,mem_of_getElem?->wJ,getElem?_eq_none->wK,length_append->wM,length_cons->wN,getElem_mem->wO,length_set->wP,append_nil->wQ,getElem?_eq_some_iff->wR,getElem?_replicate->wS,take_of_length_le->wT,pairwise_append->wU,map_congr_left->wW,mem_singleton->wX,ext_getElem?->wY,take_length->wZ,mem_append->w5,map_take->w6
open Option renaming isSome_some->w7,isSome_none->w8,bind_some->w9
open Bool renaming false_eq_true->wa
open Int renaming le_refl->wb,add_zero->wd,sub_zero->wf
open Classical renaming not_not->wg,axiomOfChoice->wh
namespace Go.Proofs.S51.P
open Go Go.Ev Go.Proofs Go.Fl
variable {gl :Gl} {n:Nat}
abbrev V80 :List AV:=[.ptr 100001 [],.ptr 100002 [],.ptr 100003 []]
theorem D0 (h:1<=n){k m:Int}{W:List Nat}(hk:0<=k/\k<=1073741824)(hm:0<=m/\m<=1073741824):call gl tab n 1000080 [i64 m,.lst false .sc (us W)] [(100000,.lp 80 V80 .ready),(100001,.fix .sc (i64 k)),(100002,.fix .sc (.lst true .sc [])),(100003,.fix .sc (i64 0))] =
  if k<m then some (.bool false,[(100000,.lp 80 V80 (.done .ret)),(100001,.fix .sc (i64 k)),(100002,.fix .sc (.lst false .sc (us W))),(100003,.fix .sc (i64 0))],[])
  else some (.bool true,[(100000,.lp 80 V80 .ready),(100001,.fix .sc (i64 (k-m))),(100002,.fix .sc (.lst true .sc [])),(100003,.fix .sc (i64 0))],[]):=by
 obtain⟨d,rfl⟩:=wD h;rw[cX (fd:=A5) rfl rfl];by_cases e:k<m
 . rw[if_pos e];simp(disch:=apply zq;omega) only[go_sem,simprocAttr,↓wB,xx,A5,Nx,Nw]
 . rw[if_neg e];simp(disch:=apply zq;omega) only[go_sem,simprocAttr,↓wB,xx,A5,Nx,Nw]
theorem X8 {d:Nat}{q:PF}{p:List Sp}{r:List Rd}{l:List Nat}(hp:p.length<=1000)(hl:∀x∈l,x<=100000):Fn1 gl (d+1) 65 [.cp sPl (plV q p r)] l (fun x=>decide (p.length<=x)=true) where
 lt:=by decide
 ld hp:=by simp only[go_sem]
 l3 hp:=by simp only[go_sem]
 rf:=rfl
 at_ x hx:=by
  have hxl:=hl x hx;refine⟨decide (p.length<=x),Iff.rfl,?_⟩;have e:decide ((x:Int)>=(p.length:Int))=decide (p.length<=x):=by simp
  rw[au (fd:=Tb) rfl];simp(disch:=apply zq;omega) only[go_sem,simprocAttr,↓wB,xx,Tb,m65,ah,e]
def elI :List (List Nat)->Nat->List NE
 | [],_=>[]
 | w::ws,0=>.own (us w)::elI ws 0
 | _::ws,i+1=>.gone::elI ws i
theorem PV :∀ws,elI ws 0=wsE ws
 | []=>rfl
 | w::ws=>by rw[elI,PV ws];rfl
theorem re :∀ws i,(elI ws i).length=ws.length
 | [],_=>rfl
 | w::ws,0=>by rw[elI,wN,re ws 0,wN]
 | w::ws,i+1=>by rw[elI,wN,re ws i,wN]
theorem yQ :∀{ws:List (List Nat)} {i:Nat} {w:List Nat},ws[i]? =some w->(elI ws i)[i]? =some (.own (us w))
 | [],i,w,h=>by simp at h
 | v::ws,0,w,h=>by simp at h;subst h;rfl
 | v::ws,i+1,w,h=>by rw[elI,List.getElem?_cons_succ];exact yQ (by simpa using h)
theorem yP :∀{ws:List (List Nat)} {i:Nat},i<ws.length->(elI ws i).set i .gone=elI ws (i+1)
 | [],i,h=>by simp at h
 | v::ws,0,h=>by rw[elI,List.set_cons_zero,elI]
 | v::ws,i+1,h=>by rw[elI,List.set_cons_succ,yP (by simpa using h),elI]
theorem oL :∀ws i,dE (elI ws i)=[]
 | [],_=>rfl
 | w::ws,0=>oL ws 0
 | w::ws,i+1=>oL ws i
theorem rb (ρ:Nat->Nat):∀ws i,kq ρ (elI ws i)=elI ws i
 | [],_=>rfl
 | w::ws,0=>by rw[elI,kq,rb ρ ws 0];rfl
 | w::ws,i+1=>by rw[elI,kq,rb ρ ws i];rfl
theorem rh (hp:Hp):∀ws i,ju hp (elI ws i)=some (elI ws i,[])
 | [],_=>rfl
 | w::ws,0=>by rw[elI,ju,rh hp ws 0];rfl
 | w::ws,i+1=>by rw[elI,ju,rh hp ws i];rfl
def nAt (a:List Ar)(v:Nat)(ws:List (List Nat))(num:List Int)(k:Int):Nat->Int
 | 0=>k
 | i+1=>nAt a v ws num k i-if isS a v (ws.getD i [])=true then nth num i else 0
noncomputable def L62:MC:=wq 0 m62
def S62 (g:Nt)(b:Bool)(q:PF)(p:List Sp)(r:List Rd)(pl:Nat)(ws:List (List Nat))(num:List Int)(k:Int)(i:Nat):St :=
 ⟨[.set 23 (i64 (i:Int)),.set 22 (i64 (ws.length:Int)),.set 21 (.sl 17 [] 0 ws.length),.set 7 (.sl 1017 [] 0 num.length),.set 5 (.ptr 5 []),.set 3 (.cp .sc (i64 (pl:Int))),.set 1 (.cp sPl (plV q p r)),.set 0 (.yld 100000)],
   [(100003,.fix .sc (i64 0)),(100002,.fix .sc (.lst true .sc [])),(100001,.fix .sc (i64 (nAt g.a (2+2*pl) ws num k i))),(100000,.lp 80 V80 .ready),(1017,.grow .sc (ns num)),(17,.nest (elI ws i)),(5,.fix sNt (nV g b yA4))]⟩
theorem PY {d:Nat}{q:PF}{p:List Sp}{r:List Rd}{w:List Nat}(hp:p.length<=49)(hl:w.length<=100)(hw:∀x∈w,x<=100000):∃C,C.length=w.length/\C.take (kpt (fun x=>decide (p.length<=x)) w).length=kpt (fun x=>decide (p.length<=x)) w /\
  call gl tab (d+3) 64 [.sl 100000 [] 0 w.length,.fn 65 [.cp sPl (plV q p r)]] [(100000,.grow .sc (us w))]=some (.sl 100000 [] 0 (kpt (fun x=>decide (p.length<=x)) w).length,[(100000,.grow .sc (us C))],[]) :=
 @GP gl (d+1) 65 [.cp sPl (plV q p r)] w (fun x=>decide (p.length<=x)) (by omega) fun d' hd=>by obtain⟨e,rfl⟩:=wD (show 1<=d' by omega);exact X8 (by omega) hw
section
variable {d :Nat} {g:Nt} {b:Bool} {q:PF} {p:List Sp} {r:List Rd} {pl:Nat} {ws:List (List Nat)} {num:List Int} {k:Int} (hg:GOk g) (hp:p.length<=49) (hpl:pl<=1000) (hn:ws.length=num.length) (hwl:ws.length<=1000000)
 (hw:∀w∈ws,0<w.length/\w.length<=100/\∀i∈w,i<g.a.length) (hx:∀x∈num,1<=x/\x<=1073741824)
include hg hp hpl hn hwl hw hx
theorem QQ {i:Nat}(hi:i<ws.length)(hk:0<=nAt g.a (2+2*pl) ws num k i/\nAt g.a (2+2*pl) ws num k i<=1073741824)(hc:¬(isS g.a (2+2*pl) (ws.getD i [])=true/\nAt g.a (2+2*pl) ws num k i<nth num i)) :
  aK K62 (evC gl (call gl tab (d+3)) L62 (S62 g b q p r pl ws num k i))=some (S62 g b q p r pl ws num k (i+1)):=by
 have ha:=hg.a;obtain⟨w,hwi⟩:∃w,ws[i]? =some w:=⟨_,wG hi⟩;have eD:ws.getD i []=w:=by rw[wH,hwi];rfl
 obtain⟨w1,w2,w3⟩:=hw w (wJ hwi);obtain⟨x,hx0⟩:∃x,w[0]? =some x:=⟨_,wG w1⟩;have hh:w.headD 0=x:=by cases w with|nil=>simp at w1|cons a l=>simpa using hx0
 have hxa:=w3 x (wJ hx0);have y1:=yQ hwi;have y2:=yP hi;have y3:=dy hx0;have y4:=dY hxa;have y5:=bc (show i<num.length by omega);have y6:(us w).isEmpty=false:=by rw[fR];cases w with|nil=>simp at w1|cons a l=>rfl
 have hxi:=hx (nth num i) (by
  unfold nth;rw[wH,wG (by omega)];exact wO _)
 have hel:=re ws i;have ht:=hg.ok.t x hxa;have hgn:=hg.n;unfold S62;have eS:isS g.a (2+2*pl) (ws.getD i [])=((art g.a x).t==2+2*pl):=by rw[eD,isS,hh]
 rw[nAt,eS];rw[eS]at hc;generalize nAt g.a (2+2*pl) ws num k i=c at *
 by_cases e:(art g.a x).t=2+2*pl
 . have e1:((art g.a x).t==2+2*pl)=true:=by simpa using e
   rw[e1]at hc ⊢;have b1:(((art g.a x).t:Int) != 2+2*(pl:Int))=false:=by rw[e];simp
   have hcn:¬c<nth num i:=fun h=>hc ⟨rfl,h⟩
   obtain⟨C,g1,g2,g3⟩:=PY (gl:=gl) (d:=d) (q:=q) (r:=r) hp w2 (fun y hy=>by have:=w3 y hy;omega);have c80:=@D0 gl (d+3) (by omega) c (nth num i) (kpt (fun x=>decide (p.length<=x)) w) hk (by omega);rw[if_neg hcn]at c80;have gl1:=lY (fun x=>decide (p.length<=x)) w w.length;rw[wZ]at gl1;have g4:List.take (kpt (fun x=>decide (p.length<=x)) w).length (us C)=us (kpt (fun x=>decide (p.length<=x)) w):=by rw[us,<-w6,g2,us]
   generalize kpt (fun x=>decide (p.length<=x)) w=F at *
   simp(disch:=apply zq;omega) only[go_sem,simprocAttr,↓wB,xx,L62,y1,y2,y3,y4,y5,y6,aj,ak,ae,b1,hel,g3,AV.scalar,gX,g1,g4,gl1,c80];simp(disch:=apply zq;omega) only[go_sem,simprocAttr,↓wB,xx,j4,rh,oL,rb,jj,w8,w7,wa,w9,rOB,bO,er]
 . have e1:((art g.a x).t==2+2*pl)=false:=by simpa using e
   have b1:(((art g.a x).t:Int) != 2+2*(pl:Int))=true:=by simp;omega
   rw[e1]at hc ⊢;simp(disch:=apply zq;omega) only[go_sem,simprocAttr,↓wB,xx,L62,y1,y2,y3,y4,y5,y6,aj,ak,ae,b1,hel,wf];simp(disch:=apply zq;omega) only[go_sem,simprocAttr,↓wB,xx,j4,rh,oL,rb,jj,w8,w7,wa,w9,rOB,bO,er]
theorem PL {i:Nat}(hi:i<ws.length)(hk:0<=nAt g.a (2+2*pl) ws num k i/\nAt g.a (2+2*pl) ws num k i<=1073741824)(hc:isS g.a (2+2*pl) (ws.getD i [])=true/\nAt g.a (2+2*pl) ws num k i<nth num i) :
  ∃st,evC gl (call gl tab (d+3)) L62 (S62 g b q p r pl ws num k i)=some (.ret,st)/\Hp.get st.hp 100000=some (.lp 80 V80 (.done .ret))/\Hp.get st.hp 100001=some (.fix .sc (i64 (nAt g.a (2+2*pl) ws num k i))) /\
   Hp.get st.hp 100002=some (.fix .sc (.lst false .sc (us (kpt (fun x=>decide (p.length<=x)) (ws.getD i [])))))/\Hp.get st.hp 100003=some (.fix .sc (i64 0)):=by
 have ha:=hg.a;obtain⟨w,hwi⟩:∃w,ws[i]? =some w:=⟨_,wG hi⟩;have eD:ws.getD i []=w:=by rw[wH,hwi];rfl
 obtain⟨w1,w2,w3⟩:=hw w (wJ hwi);obtain⟨x,hx0⟩:∃x,w[0]? =some x:=⟨_,wG w1⟩;have hh:w.headD 0=x:=by cases w with|nil=>simp at w1|cons a l=>simpa using hx0
 have hxa:=w3 x (wJ hx0);have y1:=yQ hwi;have y2:=yP hi;have y3:=dy hx0;have y4:=dY hxa;have y5:=bc (show i<num.length by omega);have y6:(us w).isEmpty=false:=by rw[fR];cases w with|nil=>simp at w1|cons a l=>rfl
 have hxi:=hx (nth num i) (by
  unfold nth;rw[wH,wG (by omega)];exact wO _)
 have hel:=re ws i;have ht:=hg.ok.t x hxa;have hgn:=hg.n;obtain⟨hc1,hc2⟩:=hc;rw[eD,isS,hh]at hc1;have e:(art g.a x).t=2+2*pl:=by simpa using hc1
 have b1:(((art g.a x).t:Int) != 2+2*(pl:Int))=false:=by rw[e];simp
 rw[eD];unfold S62;generalize nAt g.a (2+2*pl) ws num k i=c at *
 obtain⟨C,g1,g2,g3⟩:=PY (gl:=gl) (d:=d) (q:=q) (r:=r) hp w2 (fun y hy=>by have:=w3 y hy;omega);have c80:=@D0 gl (d+3) (by omega) c (nth num i) (kpt (fun x=>decide (p.length<=x)) w) hk (by omega);rw[if_pos hc2]at c80;have gl1:=lY (fun x=>decide (p.length<=x)) w w.length;rw[wZ]at gl1;have g4:List.take (kpt (fun x=>decide (p.length<=x)) w).length (us C)=us (kpt (fun x=>decide (p.length<=x)) w):=by rw[us,<-w6,g2,us]
 generalize kpt (fun x=>decide (p.length<=x)) w=F at *
 simp(disch:=apply zq;omega) only[go_sem,simprocAttr,↓wB,xx,L62,y1,y2,y3,y4,y5,y6,aj,ak,ae,b1,hel,g3,AV.scalar,gX,g1,g4,gl1,c80];exact⟨_,rfl,rfl,rfl,rfl,rfl⟩
end
def Hit (a:List Ar)(v:Nat)(ws:List (List Nat))(num:List Int)(k:Int)(i:Nat):Prop:=isS a v (ws.getD i [])=true/\nAt a v ws num k i<nth num i
structure Rt (a:List Ar)(v:Nat)(ws:List (List Nat))(num:List Int)(k:Int)(i:Nat):Prop where
 le:i<=ws.length
 no:∀j,j<i->¬Hit a v ws num k j
 hit:i<ws.length->Hit a v ws num k i
theorem Po {a:List Ar}{v:Nat}{ws:List (List Nat)}{num:List Int}{k:Int}(hk:0<=k)(hx:∀i,0<=nth num i):∀{i:Nat},(∀j,j<i->¬Hit a v ws num k j)->0<=nAt a v ws num k i/\nAt a v ws num k i<=k
 | 0,_=>⟨hk,wb _⟩
 | i+1,h=>by
   have ih:=Po hk hx (i:=i) fun j hj=>h j (by omega)
   have h1:=h i (by omega);have h2:=hx i;rw[nAt];split
   . rename_i e;have:¬nAt a v ws num k i<nth num i:=fun h'=>h1 ⟨e,h'⟩
     omega
   . omega
section
variable {d :Nat} {q:PF} {p:List Sp} {r:List Rd} {pl:Nat} {ws:List (List Nat)} {num fl:List Int} {k:Int} {w:Fq} (hq:PFOk q p r) (hk:PK p r) (hp:p.length<=49) (hr:r.length<=1500) (hpl:pl<p.length) (hn:ws.length=num.length) (hwl:ws.length<=1000000)
 (hw:∀w∈ws,0<w.length/\w.length<=100/\∀i∈w,i<(aJ p r).length) (hx:∀x∈num,1<=x/\x<=1073741824) (hk0:0<=k/\k<=1073741824)
 (c63:call gl tab (d+5) 63 [nV (net p r) false yA4,i64 0,i64 1,.lst w.b1 .sc (ns fl)] []=some (pathV ws num,[],pathO ws num))
include hq hk hp hr hpl hn hwl hw hx hk0 c63
theorem ways_at :∃i,Rt (aJ p r) (2+2*pl) ws num k i /\
  call gl tab (d+6) 62 [.yld 100000,.cp sPl (plV q p r),.cp yA5 (fqV w fl),.cp .sc (i64 (pl:Int))] [(100000,.lp 80 V80 .ready),(100001,.fix .sc (i64 k)),(100002,.fix .sc (.lst true .sc [])),(100003,.fix .sc (i64 0))] =
   some (.tup [],[(100000,.lp 80 V80 (if i<ws.length then .done .ret else .ready)),(100001,.fix .sc (i64 (nAt (aJ p r) (2+2*pl) ws num k i))),(100002,.fix .sc (if i<ws.length then .lst false .sc (us (kpt (fun x=>decide (p.length<=x)) (ws.getD i [])))else .lst true .sc [])),(100003,.fix .sc (i64 0))],[]):=by
 have hg:=gQ hq hk hp hr;have hne:(aJ p r).isEmpty=false:=by rw[List.isEmpty_eq_false_iff];intro e;have:=bU p r;rw[e]at this;simp at this;omega
 have c22:=@yd gl (d+5) q p r hq hk (by omega);rw[hne,if_neg (by decide)]at c22;have hnn:∀i,0<=nth num i:=fun i=>by
  by_cases hi:i<num.length
  . have:=hx (nth num i) (by unfold nth;rw[wH,wG hi];exact wO _);omega
  . unfold nth;rw[wH,wK (by omega)];exact wb _
 cases hws:ws with
 | nil =>
   subst hws;obtain rfl:num=[]:=List.length_eq_zero_iff.1 hn.symm;refine⟨0,⟨wC _,fun j h=>absurd h (wE j),fun h=>absurd h (Nat.lt_irrefl _)⟩,?_⟩;rw[bf (fd:=Kl) rfl];simp only[pathV,pathO,List.isEmpty_nil,if_true]at c63;simp(disch:=apply zq;omega) only[go_sem,simprocAttr,↓wB,xx,Kl,m62,c22,c63];rw[aE (fun _=>⟨[.set 23 (i64 0),.set 22 (i64 0),.set 21 (.lst true .sc []),.set 7 (.sl 17 [] 0 0),.set 5 (.ptr 5 []),.set 3 (.cp .sc (i64 (pl:Int))),.set 1 (.cp sPl (plV q p r)),.set 0 (.yld 100000)],
    [(100003,.fix .sc (i64 0)),(100002,.fix .sc (.lst true .sc [])),(100001,.fix .sc (i64 k)),(100000,.lp 80 V80 .ready),(17,.grow .sc (ns [])),(5,.fix sNt (nV (net p r) false yA4))]⟩) 0 (by unfold LF;omega)]
   . simp(disch:=apply zq;omega) only[go_sem,simprocAttr,↓wB,xx,nAt]
   . simp(disch:=apply zq;omega) only[go_sem,simprocAttr,↓wB,xx,jj,w8,w7,wa,j4,w9,rOB]
   . intro i hi;omega
   . simp(disch:=apply zq;omega) only[go_sem,simprocAttr,↓wB,xx]
 | cons w0 ws0 =>
   have hbd:=fun i (h:∀j,j<i->¬Hit (aJ p r) (2+2*pl) ws num k j)=>(show _/\_ from Po hk0.1 hnn h:0<=nAt (net p r).a (2+2*pl) ws num k i/\nAt (net p r).a (2+2*pl) ws num k i<=k)
   obtain⟨i,hi,hb,ha,hit⟩:=pE (f:=evC gl (call gl tab (d+5)) L62) (ks:=K62) (S62 (net p r) false q p r pl ws num k) ws.length (fun i=>¬Hit (aJ p r) (2+2*pl) ws num k i) (by unfold LF;omega)
    (fun i hi hb hp'=>QQ hg hp (by omega) hn hwl hw hx hi (by have:=hbd i hb;omega) hp')
    (fun i hi hb hp'=>by
      obtain⟨st,h1,_⟩:=@PL gl (d+2) (net p r) false q p r pl ws num k hg hp (by omega) hn hwl hw hx i hi (by have:=hbd i hb;omega) (wg.1 hp');rw[h1];rfl)
    (fun _=>by simp(disch:=apply zq;omega) only[go_sem,simprocAttr,↓wB,xx,L62,S62])
   have e0:ws.isEmpty=false:=by rw[hws];rfl
   rw[<-hws];refine⟨i,⟨hi,fun j hj=>wg.1 fun h=>(hb j hj) (wg.1 h),fun h=>wg.1 (ha h)⟩,?_⟩;simp only[pathV,pathO,e0,wa,if_false]at c63;simp only[L62,wq,K62]at hit;rw[bf (fd:=Kl) rfl];simp(disch:=apply zq;omega) only[go_sem,simprocAttr,↓wB,xx,Kl,m62,c22,c63];rw[hit _ (by simp(disch:=apply zq;omega) only[go_sem,simprocAttr,↓wB,xx,S62,nAt,PV,jj,w8,w7,wa,j4,w9,rOB,lP,gx,iG,bO,er])];by_cases hil:i<ws.length
   . obtain⟨st,h1,h2,h3,h4,h5⟩:=@PL gl (d+2) (net p r) false q p r pl ws num k hg hp (by omega) hn hwl hw hx i hil (by have:=hbd i hb;omega) (wg.1 (ha hil));simp only[L62,wq]at h1;rw[h1,if_pos hil,if_pos hil];simp(disch:=apply zq;omega) only[go_sem,simprocAttr,↓wB,xx,h2,h3,h4,h5];rfl
   . have:i=ws.length:=by omega
     subst this;rw[if_neg hil,if_neg hil];simp(disch:=apply zq;omega) only[go_sem,simprocAttr,↓wB,xx,S62];rfl
theorem route_at (hkd:(spt p pl).kd=1):∃i,Rt (aJ p r) (2+2*pl) ws num k i/\call gl tab (d+7) 8 [plV q p r,fqV w fl,i64 (pl:Int),i64 k] [] =
  some (.tup [if i<ws.length then .lst false .sc (us (kpt (fun x=>decide (p.length<=x)) (ws.getD i [])))else .lst true .sc [],i64 (if i<ws.length then 0 else 1)],[],[]):=by
 obtain⟨i,hi,c62⟩:=ways_at hq hk hp hr hpl hn hwl hw hx hk0 c63;refine⟨i,hi,?_⟩;have hsh:q.s=sSp:=hq.s.resolve_left (fun e=>by rw[e]at hpl;simp at hpl);have x1:=da hpl;have c27:call gl tab (d+6) 27 [plV q p r,fqV w fl,i64 (pl:Int)] []=some (.fn 62 [.cp sPl (plV q p r),.cp yA5 (fqV w fl),.cp .sc (i64 (pl:Int))],[],[]):=by rw[au (fd:=TA) rfl];simp(disch:=apply zq;omega) only[go_sem,simprocAttr,↓wB,xx,TA,m27]
 rw[au (fd:=fd8) rfl];obtain⟨b1,s1,b2,s2⟩:=q;simp only at hsh;subst hsh;by_cases hil:i<ws.length
 . simp only[if_pos hil]at c62 ⊢;simp(disch:=apply zq;omega) only[go_sem,simprocAttr,↓wB,xx,fd8,m8,c27,x1,ah,hkd,c62]
 . simp only[if_neg hil]at c62 ⊢;simp(disch:=apply zq;omega) only[go_sem,simprocAttr,↓wB,xx,fd8,m8,c27,x1,ah,hkd,c62]
end
end Go.Proofs.S51.P
namespace Go.Proofs.S51
open Go Go.Ev Go.Proofs Go.Fl
variable {gl :Gl} {n:Nat}
noncomputable def L3o:MC:=wq 0 m3
noncomputable def L3i:MC:=wq 2 m3
section
variable (q :PF) (p:List Sp) (r:List Rd) (w:Fq) (fl:List Int) (W:Int) (L:List Al) (C:Int->Int->Int) (G:List Int) (R:List Rf)
def S3o (k:Nat):St :=
 ⟨[.set 56 (i64 (k:Int)),.set 55 (i64 (p.length:Int)),.set 54 (.lst q.b q.s (ps p)),.set 11 (.sl 5011 [] 0 R.length),.set 10 (.sl 52 [] 0 p.length),.set 8 (.sl 44 [] 0 L.length),.set 7 (i64 W),.set 5 (.ptr 5 []),.set 2 (.ptr 2 [])],
   [(44,.grow yAp (wls W C L)),(52,.grow .sc (ns G)),(5,.fix yA5 (fqV w fl)),(2,.fix sPl (plV q p r)),(5011,.grow yA8 (rfs R))]⟩
def S3i (k m:Nat):St :=
 ⟨[.set 56 (i64 (k:Int)),.set 55 (i64 (p.length:Int)),.set 54 (.lst q.b q.s (ps p)),.set 14 (i64 (m:Int)),.set 13 (.ptr 13 []),.set 12 (i64 (k:Int)),.set 11 (.sl 5011 [] 0 R.length),.set 10 (.sl 52 [] 0 p.length),.set 8 (.sl 44 [] 0 L.length),.set 7 (i64 W),.set 5 (.ptr 5 []),.set 2 (.ptr 2 [])],
   [(44,.grow yAp (wls W C L)),(52,.grow .sc (ns G)),(13,.fix yA3 (sV (spt p k))),(5,.fix yA5 (fqV w fl)),(2,.fix sPl (plV q p r)),(5011,.grow yA8 (rfs R))]⟩
end
section
variable {D :Nat} {q:PF} {p:List Sp} {r:List Rd} {w:Fq} {fl:List Int} {W:Int} {L:List Al} {C:Int->Int->Int} {G:List Int} {R:List Rf} {k m:Nat} (hs:q.s=sSp) (hW:0<=W/\W<=1000000) (hG:G.length=p.length) (hp:p.length<=20) (hL:L.length<=100000) (hR:R.length<=100000) (hk:k<p.length) (hkd:(spt p k).kd=1) (hm:(m:Int)<(spt p k).cp) (hm2:m<=1000000)
include hs hW hG hp hL hR hk hkd hm hm2
theorem XM {x:Rf}(hsl:SlOk x.sl){kv:AV}(c8:call gl tab D 8 [plV q p r,fqV w fl,i64 (k:Int),i64 (m:Int)] []=some (.tup [.lst true .sc [],i64 1],[],[]))
  (c10:call gl tab D 10 [i64 (spt p k).nu] []=some (kyV (1000+(spt p k).nu) 1 [115] 0 1099511627776,[],[]))
  (c9:call gl tab D 9 [kyV (1000+(spt p k).nu) 1 [115] 0 1099511627776,plV q p r,fqV w fl,i64 (k:Int),i64 (m:Int),i64 W,.agg [i64 (1000*W),i64 (1000*W+9)]] []=some (.tup [rfV x,i64 0],[],[]))
  (c11:call gl tab D 11 [plV q p r,rfV x] []=some (i64 0,[],[])) :
  aK K3i (evC gl (call gl tab D) L3i (S3i q p r w fl W L C G R k m))=some (S3i q p r w fl W L C G (R++[x]) k (m+1)):=by
 have wl:=cx W C L;have rl:=gk R;have gg:=ae G;have l1:R.length+1<=LIM:=by unfold LIM;omega
 have e2:rfs (R++[x])=rfs R++[rfV x]:=by simp[rfs]
 have tk:∀v:AV,(rfs R++[v]).take (R.length+1)=rfs R++[v]:=fun v=>wT (by rw[wM,rl];simp)
 have b1:((spt p k).kd==1)=true:=by simp[hkd]
 obtain⟨qb,qs,qc,qt⟩:=q;simp only at hs;subst hs;unfold S3i;rw[e2,wM,List.length_singleton];generalize wls W C L=WL at *
 generalize rfs R=RL at *
 simp(maxSteps:=1000000) (disch:=apply zq;omega) only[go_sem,simprocAttr,↓wB,xx,L3i,L3o,wl,rl,gg,b1,c8,c9,c10,c11,l1,tk,hsl.len,hsl.a,hsl.i]
structure Hp3 (p:List Sp)(k:Nat)(V:List Nat)(b o:Nat):Prop where
 l:2<=V.length/\V.length<=100000
 v0:V[0]? =some k
 v1:V[V.length-1]? =some o
 v2:V[V.length-2]? =some b
 hb:b<p.length
 ho:o<p.length
 kd:(spt p o).kd=3
theorem X4 {V:List Nat}{b o:Nat}(hV:Hp3 p k V b o)(hb:(spt p b).kd≠2)(hg:∀i,0<=nth G i/\nth G i<=100000)(c8:call gl tab D 8 [plV q p r,fqV w fl,i64 (k:Int),i64 (m:Int)] []=some (.tup [.lst false .sc (us V),i64 0],[],[])) :
  aK K3i (evC gl (call gl tab D) L3i (S3i q p r w fl W L C G R k m))=some (S3i q p r w fl W L C (G.set o (nth G o+1)) R k (m+1)):=by
 have wl:=cx W C L;have rl:=gk R;have gg:=ae G;obtain⟨⟨l1,l2⟩,v0,v1,v2,hbp,hop,hok⟩:=hV;have x0:=dy v0;have x1:=dy v1;have x2:=dy v2;have vl:=aj V;have xb:=da hbp;have xo:=da hop;have go:=bc (l:=G) (show o<_ by omega);have hgo:=hg o;have e1:(V.length:Int)-1=((V.length-1:Nat):Int):=by omega
 have e2:(V.length:Int)-2=((V.length-2:Nat):Int):=by omega
 have b1:((spt p k).kd==1)=true:=by simp[hkd]
 have b2:((k:Int) != (k:Int))=false:=by simp
 have b3:((spt p o).kd != 3)=false:=by simp[hok]
 have b4:((spt p b).kd==2)=false:=by simpa using hb
 have gs:=fB G o (nth G o+1);obtain⟨qb,qs,qc,qt⟩:=q;simp only at hs;subst hs;unfold S3i;rw[gs];generalize wls W C L=WL at *
 generalize rfs R=RL at *
 generalize ns G=GL at *
 simp(maxSteps:=1000000) (disch:=apply zq;omega) only[go_sem,simprocAttr,↓wB,xx,L3i,L3o,wl,rl,gg,b1,b2,b3,b4,c8,x0,x1,x2,vl,xb,xo,go,e1,e2,ah,hG,wP]
theorem XK {V:List Nat}{b o:Nat}(hV:Hp3 p k V b o)(hb:(spt p b).kd=2)(hg:∀i,0<=nth G i/\nth G i<=100000)(c8:call gl tab D 8 [plV q p r,fqV w fl,i64 (k:Int),i64 (m:Int)] []=some (.tup [.lst false .sc (us V),i64 0],[],[]))
  {C':Int->Int->Int} (c12:call gl tab D 12 [.sl 100000 [] 0 L.length,i64 (spt p b).nu,i64 (spt p o).nu,i64 W] [(100000,.grow yAp (wls W C L))]=some (.bool true,[(100000,.grow yAp (wls W C' L))],[])) :
  aK K3i (evC gl (call gl tab D) L3i (S3i q p r w fl W L C G R k m))=some (S3i q p r w fl W L C' (G.set o (nth G o+1)) R k (m+1)):=by
 have wl:=cx W C L;have wl':=cx W C' L;have rl:=gk R;have gg:=ae G;obtain⟨⟨l1,l2⟩,v0,v1,v2,hbp,hop,hok⟩:=hV;have x0:=dy v0;have x1:=dy v1;have x2:=dy v2;have vl:=aj V;have xb:=da hbp;have xo:=da hop;have go:=bc (l:=G) (show o<_ by omega);have hgo:=hg o;have e1:(V.length:Int)-1=((V.length-1:Nat):Int):=by omega
 have e2:(V.length:Int)-2=((V.length-2:Nat):Int):=by omega
 have b1:((spt p k).kd==1)=true:=by simp[hkd]
 have b2:((k:Int) != (k:Int))=false:=by simp
 have b3:((spt p o).kd != 3)=false:=by simp[hok]
 have b4:((spt p b).kd==2)=true:=by simp[hb]
 have gs:=fB G o (nth G o+1);obtain⟨qb,qs,qc,qt⟩:=q;simp only at hs;subst hs;unfold S3i;rw[gs];generalize wls W C L=WL at *
 generalize wls W C' L=WL' at *
 generalize rfs R=RL at *
 generalize ns G=GL at *
 simp(maxSteps:=1000000) (disch:=apply zq;omega) only[go_sem,simprocAttr,↓wB,xx,L3i,L3o,wl,wl',rl,gg,b1,b2,b3,b4,c8,c12,x0,x1,x2,vl,xb,xo,go,e1,e2,ah,hG,wP]
end
end Go.Proofs.S51
namespace Go.Fl
theorem DW {P Q:List Nat->Bool}(h:∀w,P w=true->Q w=true):∀{ws:List (List Nat)} {num:List Int},(∀x∈num,0<=x)->sW P ws num<=sW Q ws num
 | [],_,_=>wb _
 | _::_,[],_=>wb _
 | w::ws,x::xs,hx=>by
   have ih:=DW h (ws:=ws) (num:=xs) fun y hy=>hx y (by simp[hy])
   have h0:=hx x (by simp);rw[sW,sW];by_cases e:P w=true
   . rw[if_pos e,if_pos (h w e)];omega
   . rw[if_neg e];split<;>omega
theorem VM {p:List Sp}{r:List Rd}{ws:List (List Nat)}{num:List Int}{P:List Nat->Bool}(j n:Nat):0<=gP p r ws num P j n:=(VH P _).1
theorem Np {p:List Sp}{r:List Rd}{ws:List (List Nat)}{num:List Int}(j n:Nat):0<=nP p r ws num j n:=by unfold nP;split<;>decide
theorem Yd (p:List Sp)(G:Nat->Nat->Int):cS p G 0 0=0:=rfl
theorem Lv (p:List Sp)(G:Nat->Nat->Int)(k:Nat):cS p G k 0=aL p G k:=by unfold cS;rw[sN,wd]
def rN {α:Type}(mk:Nat->Nat->α)(Q:Nat->Nat->Bool)(k:Nat):Nat->List α
 | 0=>[]
 | m+1=>if Q k m=true then rN mk Q k m++[mk k m]else rN mk Q k m
def rK {α:Type}(p:List Sp)(mk:Nat->Nat->α)(Q:Nat->Nat->Bool):Nat->List α
 | 0=>[]
 | k+1=>if(spt p k).kd=1 then rK p mk Q k++rN mk Q k (spt p k).cp.toNat else rK p mk Q k
def rA {α:Type}(p:List Sp)(mk:Nat->Nat->α)(Q:Nat->Nat->Bool)(k m:Nat):List α:=rK p mk Q k++rN mk Q k m
section
variable {α :Type} {p:List Sp} {mk:Nat->Nat->α} {Q:Nat->Nat->Bool}
theorem XN {k m:Nat}(h:Q k m=true):rA p mk Q k (m+1)=rA p mk Q k m++[mk k m]:=by unfold rA;rw[rN,if_pos h,List.append_assoc]
theorem XO {k m:Nat}(h:Q k m=false):rA p mk Q k (m+1)=rA p mk Q k m:=by unfold rA;rw[rN,if_neg (by rw[h];decide)]
theorem Rz {k:Nat}(hk:(spt p k).kd=1):rA p mk Q k (spt p k).cp.toNat=rA p mk Q (k+1) 0:=by unfold rA;rw[rK,if_pos hk,rN,wQ]
theorem M6 {k:Nat}(hk:(spt p k).kd≠1):rA p mk Q k 0=rA p mk Q (k+1) 0:=by unfold rA;rw[rK,if_neg hk,rN,rN]
theorem B6 (k:Nat):∀m,((rN mk Q k m).length:Int)=sN (fun n=>if Q k n=true then 1 else 0) m
 | 0=>rfl
 | m+1=>by
   rw[rN,sN,<-B6 k m];split
   . rw[wM];simp
   . simp
theorem Is :∀k,((rK p mk Q k).length:Int)=aL p (fun k n=>if Q k n=true then 1 else 0) k
 | 0=>rfl
 | k+1=>by
   have ih:=Is k;unfold aL at ih ⊢;rw[rK,sN,<-ih];split
   . rw[wM,<-B6 (mk:=mk)];simp
   . simp
theorem Iw (k m:Nat):((rA p mk Q k m).length:Int)=cS p (fun k n=>if Q k n=true then 1 else 0) k m:=by unfold rA cS;rw[wM,<-Is (mk:=mk),<-B6 (mk:=mk)];simp
theorem sj {k:Nat}{x:α}:∀{m},x∈rN mk Q k m->∃n,n<m/\Q k n=true/\x=mk k n
 | 0,h=>by simp[rN]at h
 | m+1,h=>by
   rw[rN]at h;split at h
   . rename_i e;rw[w5,wX]at h;rcases h with h|rfl
     . obtain⟨n,h1,h2⟩:=sj h;exact⟨n,by omega,h2⟩
     . exact⟨m,by omega,e,rfl⟩
   . obtain⟨n,h1,h2⟩:=sj h;exact⟨n,by omega,h2⟩
theorem xY {x:α}:∀{k},x∈rK p mk Q k->∃j n,j<k/\(spt p j).kd=1/\n<(spt p j).cp.toNat/\Q j n=true/\x=mk j n
 | 0,h=>by simp[rK]at h
 | k+1,h=>by
   rw[rK]at h;split at h
   . rename_i e;rw[w5]at h;rcases h with h|h
     . obtain⟨j,n,h1,h2⟩:=xY h;exact⟨j,n,by omega,h2⟩
     . obtain⟨n,h1,h2⟩:=sj h;exact⟨k,n,by omega,e,h1,h2⟩
   . obtain⟨j,n,h1,h2⟩:=xY h;exact⟨j,n,by omega,h2⟩
theorem Iq {k:Nat}{Rl:α->α->Prop}(hR:∀a b,a<b->Rl (mk k a) (mk k b)):∀m,(rN mk Q k m).Pairwise Rl
 | 0=>List.Pairwise.nil
 | m+1=>by
   rw[rN];split
   . rw[wU];refine⟨Iq hR m,List.pairwise_singleton _ _,fun x hx y hy=> ?_⟩;obtain⟨n,h1,_,rfl⟩:=sj hx;rw[wX]at hy;subst hy;exact hR n m h1
   . exact Iq hR m
theorem Ir {Rl:α->α->Prop}(hR:∀j k a b,j<k\/(j=k/\a<b)->Rl (mk j a) (mk k b)):∀k,(rK p mk Q k).Pairwise Rl
 | 0=>List.Pairwise.nil
 | k+1=>by
   rw[rK];split
   . rw[wU];refine⟨Ir hR k,Iq (fun a b h=>hR k k a b (.inr ⟨rfl,h⟩)) _,fun x hx y hy=> ?_⟩;obtain⟨j,n,h1,_,_,_,rfl⟩:=xY hx;obtain⟨m,_,_,rfl⟩:=sj hy;exact hR j k n m (.inl h1)
   . exact Ir hR k
end
end Go.Fl
namespace Go.Proofs.S51
open Go Go.Ev Go.Proofs Go.Fl
variable {gl :Gl} {n:Nat}
theorem I0 {a:List Ar}{v:Nat}{w:List Nat}{ws:List (List Nat)}{x:Int}{xs:List Int}{k:Int}:∀i,P.nAt a v (w::ws) (x::xs) k (i+1)=P.nAt a v ws xs (k-if isS a v w=true then x else 0) i
 | 0=>rfl
 | i+1=>by rw[P.nAt,I0 i,P.nAt];rfl
theorem DZ {a:List Ar}{v:Nat}:∀{ws:List (List Nat)} {num:List Int} {k:Int} {i:Nat},ws.length=num.length->P.Rt a v ws num k i->pick a v ws num k=if i<ws.length then some (ws.getD i [])else none
 | [],_,_,_,_,h=>by have:=h.le;rw[pick,if_neg (by simp at this ⊢)];intros;contradiction
 | _::_,[],_,_,h,_=>by simp at h
 | w::ws,x::xs,k,i,hl,h=>by
   cases i with
   | zero =>have h1:=h.hit (by simp);unfold P.Hit at h1;have h2:isS a v w=true/\k<x:=h1;rw[pick,if_pos h2.1,if_pos h2.2,if_pos (by simp)];rfl
   | succ i =>
     have h0:¬(isS a v w=true/\k<x):=h.no 0 (by omega);have ht:P.Rt a v ws xs (k-if isS a v w=true then x else 0) i:=⟨by have:=h.le;simp at this;omega,fun j hj hh=>h.no (j+1) (by omega) (by
      unfold P.Hit at hh ⊢;rw[I0];exact hh),fun hi=>by
      have:=h.hit (by simp;omega);unfold P.Hit at this ⊢;rw[I0]at this;exact this⟩
     have ih:=DZ (by simpa using hl) ht;rw[pick];have e:(if i<ws.length then some (ws.getD i [])else none)=if i+1<(w::ws).length then some ((w::ws).getD (i+1) [])else none:=by simp
     rw[<-e,<-ih];by_cases hi:isS a v w=true
     . rw[if_pos hi,if_pos hi,if_neg fun hk=>h0 ⟨hi,hk⟩]
     . rw[if_neg hi,if_neg hi,wf]
theorem DK {p:List Sp}{r:List Rd}(hk:POk p r){v:List Nat}(h1:wlk (aJ p r) 0 v 1)(h2:(frm (aJ p r) v).Nodup):v.length<=2+2*p.length:=by
 have h3:=yk h2 (n:=2+2*p.length) fun x hx=>by obtain⟨i,hi,rfl⟩:=List.mem_map.1 hx;exact(Cg hk).f i (iT h1 hi)
 rwa [frm,List.length_map]at h3
theorem PW (p:List Sp):∀i,dm p i=sN (fun j=>if(spt p j).kd=1 then(spt p j).cp else 0) i
 | 0=>rfl
 | i+1=>by rw[dm,sN,<-PW p i];split<;>omega
def rtV (p:List Sp):Option (List Nat)->AV
 | some v=>.tup [.lst false .sc (us (plc p v)),i64 0]
 | none=>.tup [.lst true .sc [],i64 1]
abbrev mkR (W sent:Int)(cut:List Nat)(sl:Nat->Nat->List AV)(k m:Nat):Rf:=⟨k,(m:Int),W,sent,false,cut,1000*W,1000*W+9,1,sl k m⟩
abbrev aA (p:List Sp)(r:List Rd)(fl:List Int):List Al:=alo p r (rds p r fl) r.length
abbrev wL (p:List Sp)(r:List Rd)(fl:List Int):List Al:=wlt p (aA p r fl) p.length
structure LW (gl:Gl)(D:Nat)(q:PF)(p:List Sp)(r:List Rd)(w:Fq)(fl:List Int)(W:Int)(ws:List (List Nat))(num rest:List Int)(sent:Int)(cut:List Nat)(sl:Nat->Nat->List AV):Prop where
 hq:PFOk q p r
 fw:FW p r
 hW:0<=W/\W<=1000
 ri:RI (net p r) fl sent
 ww:WS (net p r) fl sent ws num rest 0
 sf:SF p r fl
 s0:0<=sent
 hD:12<=D
 c8:∀k m:Nat,k<p.length->(spt p k).kd=1->m<=1073741824->call gl tab D 8 [plV q p r,fqV w fl,i64 (k:Int),i64 (m:Int)] []=some (rtV p (pick (aJ p r) (2+2*k) ws num (m:Int)),[],[])
 co:sent<dm p p.length->CutOk p r fl sent cut
 c9:∀k m:Nat,k<p.length->(spt p k).kd=1->nth fl k<=m->(m:Int)<(spt p k).cp->sent<dm p p.length->SlOk (sl k m) /\
  call gl tab D 9 [kyV (1000+(spt p k).nu) 1 [115] 0 1099511627776,plV q p r,fqV w fl,i64 (k:Int),i64 (m:Int),i64 W,.agg [i64 (1000*W),i64 (1000*W+9)]] []=some (.tup [rfV (mkR W sent cut sl k m),i64 0],[],[])
section
variable (p :List Sp) (r:List Rd) (W:Int) (ws:List (List Nat)) (num:List Int) (sent:Int) (cut:List Nat) (sl:Nat->Nat->List AV) (k m:Nat)
def cC :Int->Int->Int:=fun g o=>cS p (gP p r ws num (PJ p g o)) k m
def gG :List Int:=(List.range p.length).map fun o=>cS p (gP p r ws num (fun v=>decide (lo p v=o))) k m
abbrev nQ :Nat->Nat->Bool:=fun k m=>(pick (aJ p r) (2+2*k) ws num (m:Int)).isNone
def rR :List Rf:=rA p (mkR W sent cut sl) (nQ p r ws num) k m
end
theorem jV (p:List Sp)(r:List Rd)(ws:List (List Nat))(num:List Int)(k m:Nat):(gG p r ws num k m).length=p.length:=by simp[gG]
theorem v8 {p:List Sp}{r:List Rd}{ws:List (List Nat)}{num:List Int}{k m o:Nat}(h:o<p.length):nth (gG p r ws num k m) o=cS p (gP p r ws num (fun v=>decide (lo p v=o))) k m:=by unfold nth gG;rw[wH];simp[h]
theorem Jm {a b:List Int}(hl:a.length=b.length)(h:∀i,i<a.length->nth a i=nth b i):a=b:=by
 refine List.ext_getElem hl fun i h1 h2=> ?_
 have:=h i h1;unfold nth at this;rw[wH,wH,wG h1,wG h2]at this;exact this
section
variable {D :Nat} {q:PF} {p:List Sp} {r:List Rd} {w:Fq} {fl:List Int} {W:Int} {ws:List (List Nat)} {num rest:List Int} {sent:Int} {cut:List Nat} {sl:Nat->Nat->List AV} (h:LW gl D q p r w fl W ws num rest sent cut sl)
include h
theorem I8 (P:List Nat->Bool):aL p (gP p r ws num P) p.length=sW P ws num:=O7 h.fw.k.ok h.ww h.ri P
theorem Jb (P:List Nat->Bool):0<=sW P ws num/\sW P ws num<=sent:=by have h1:=DW (P:=P) (Q:=fun _=>true) (fun _ _=>rfl) (w_ln h.fw.k.ok h.ww).2 (ws:=ws);rw[O6 h.fw.k.ok h.ww h.ri]at h1;exact⟨HG P (w_ln h.fw.k.ok h.ww).2,h1⟩
theorem q8 :aL p (nP p r ws num) p.length=dm p p.length-sent:=by rw[PW];exact UC h.fw.k.ok h.ww h.ri
theorem om :sent<=dm p p.length/\dm p p.length<=40:=by
 have h1:=q8 h;have h2:0<=aL p (nP p r ws num) p.length:=by
  refine(jB (fun j=> ?_) (wC _)).1;split
  . exact(jB (Np j) (wC _)).1
  . exact wb _
 have:=h.fw.d;omega
theorem Ax :AlOk p (aA p r fl) where
 l:=Nat.le_trans (oU p r (rds p r fl) r.length) (by have:=h.fw.nr;omega)
 nd:=Dt (fun i=>(h.sf.x i).1) _
 g a ha:=by obtain⟨i,k,hi,_,h2,h3,_⟩:=zj h.fw.k.ok _ (wC _) ha;have:=(h.fw.k.s i hi).k;omega
 le k hk hkd:=Um h.fw.k.ok h.sf.fb h.sf.z hk hkd
theorem Pq :(wL p r fl).length<=2400:=by have h1:=@xw q p r fl 0 h.hq h.fw.k (by have:=h.fw.np;omega) h.sf.fb.l h.sf.x (Ax h) (by omega) (aA p r fl) p.length;have h2:=oU p r (rds p r fl) r.length;have h3:p.length*(aA p r fl).length<=6*20:=Nat.mul_le_mul h.fw.np (by have:=h.fw.nr;unfold aA;omega);unfold wL;omega
theorem Ja (g o:Int):sW (PJ p g o) ws num=sG g o (aA p r fl):=by rw[w_R h.fw.k.ok h.ww,<-LG]
theorem Vm {a:Al}(ha:a∈wL p r fl):a∈aA p r fl/\sW (PJ p a.g a.o) ws num=a.n/\1<=a.n/\a.n<=40:=by obtain⟨k,_,_,_,h1,_,h2⟩:=qP.1 ha;have h3:=HL (Ax h).nd h1;have h4:=Ja h a.g a.o;have h5:=Jb h (PJ p a.g a.o);have h6:=om h;exact⟨h1,by omega,by omega,by omega⟩
section
variable {k m:Nat} (hk:k<p.length) (hkd:(spt p k).kd=1) (hm:(m:Int)<(spt p k).cp)
include hk hkd hm
theorem R5 (P:List Nat->Bool):0<=cS p (gP p r ws num P) k m/\cS p (gP p r ws num P) k m+gP p r ws num P k m<=sW P ws num:=by rw[<-I8 h];exact T6 VM hk hkd (by omega)
theorem Vl :∀i,0<=nth (gG p r ws num k m) i/\nth (gG p r ws num k m) i<=100000:=fun i=>by
 by_cases hi:i<p.length
 . rw[v8 hi];have h1:=R5 h hk hkd hm (fun v=>decide (lo p v=i));have h2:=@VM p r ws num (fun v=>decide (lo p v=i)) k m;have h3:=Jb h (fun v=>decide (lo p v=i));have h4:=om h;omega
 . unfold nth;rw[wH,wK (by rw[jV];omega)];exact⟨wb _,by decide⟩
theorem Vk :(rR p r W ws num sent cut sl k m).length<=40:=by have h1:=Iw (p:=p) (mk:=mkR W sent cut sl) (Q:=nQ p r ws num) k m;have h2:=@T6 p (nP p r ws num) Np k m hk hkd (by omega);have h3:=@Np p r ws num k m;have h4:=q8 h;have h5:=om h;have h6:=h.s0;have e:cS p (fun k n=>if nQ p r ws num k n=true then 1 else 0) k m=cS p (nP p r ws num) k m:=rfl;unfold rR;omega
theorem Pr (hn:pick (aJ p r) (2+2*k) ws num (m:Int)=none):sent<dm p p.length/\nth fl k<=m/\RfC p r (mkR W sent cut sl k m):=by
 have h2:=@T6 p (nP p r ws num) Np k m hk hkd (by omega);have h3:nP p r ws num k m=1:=by unfold nP;rw[hn];rfl
 have h4:=q8 h;have h5:=px (by omega) (w_ln h.fw.k.ok h.ww).1 hn;rw[(BK h.fw.k.ok h.ww h.ri hk hkd).1]at h5;have hlt:sent<dm p p.length:=by omega
 have hc:=h.co hlt;have hW:=h.hW;exact⟨hlt,h5,(h.c9 k m hk hkd h5 hm hlt).1,hk,hkd,⟨by simp only;omega,hm⟩,⟨by simp only;omega,by simp only;omega⟩,hc.ck,hc.h1,hc.h0,hc.b,hlt,hc.m k hk hkd (by omega)⟩
theorem lX (P:List Nat->Bool){o:Option (List Nat)}(ho:pick (aJ p r) (2+2*k) ws num (m:Int)=o):cS p (gP p r ws num P) k (m+1)=cS p (gP p r ws num P) k m+hvP P o:=by rw[OF];unfold gP;rw[ho]
theorem NB :aK K3i (evC gl (call gl tab D) L3i (S3i q p r w fl W (wL p r fl) (cC p r ws num k m) (gG p r ws num k m) (rR p r W ws num sent cut sl k m) k m)) =
  some (S3i q p r w fl W (wL p r fl) (cC p r ws num k (m+1)) (gG p r ws num k (m+1)) (rR p r W ws num sent cut sl k (m+1)) k (m+1)):=by
 have hs:q.s=sSp:=h.hq.s.resolve_left fun e=>by rw[e]at hk;simp at hk
 have hW:=h.hW;have hD:=h.hD;have hnp:=h.fw.np;have hcp:=h.fw.c k hk;have hgl:=jV p r ws num k m;have hwl:=Pq h;have hrl:=Vk h hk hkd hm;have c8:=h.c8 k m hk hkd (by omega)
 cases hpk:pick (aJ p r) (2+2*k) ws num (m:Int)with
 | none =>
   rw[hpk]at c8;obtain⟨h1,h2,h3⟩:=Pr h hk hkd hm hpk;obtain⟨h4,c9⟩:=h.c9 k m hk hkd h2 hm h1;have hku:=(h.fw.k.s k hk).k;have c10:=@Js gl D (by omega) (spt p k).nu (by omega);have c11:=@mS gl D q p r h.hq h.fw.k (by omega) (by have:=h.fw.nr;omega) _ h3.sl (by omega) h3.i h3.kd h3.nn h3.w h3.ck h3.h1 h3.h0 h3.b h3.d h3.m;have e1:cC p r ws num k (m+1)=cC p r ws num k m:=by funext g o;unfold cC;rw[lX h hk hkd hm _ hpk];exact wd _
   have e2:gG p r ws num k (m+1)=gG p r ws num k m:=by
    unfold gG;refine wW fun o _=> ?_
    rw[lX h hk hkd hm _ hpk];exact wd _
   have e3:rR p r W ws num sent cut sl k (m+1)=rR p r W ws num sent cut sl k m++[mkR W sent cut sl k m]:=XN (by show(pick _ _ _ _ _).isNone=true;rw[hpk];rfl);rw[e1,e2,e3];exact XM hs (by omega) hgl (by omega) (by omega) (by omega) hk hkd hm (by omega) h3.sl (kv:=.unk) c8 c10 c9 c11
 | some v =>
   rw[hpk]at c8;obtain⟨hv1,hv2⟩:=sv hpk;obtain⟨s,k',b,o,ρ,hb⟩:=vj h.fw.k.ok h.ww hv1;obtain⟨hlo,hbo⟩:=DH hb;have hsk:s=k:=by unfold isS at hv2;rw[hb.h,jt hb.hs,beq_iff_eq]at hv2;simp only at hv2;omega
   subst hsk;have hrf:=h.fw.k.ok.rf ρ hb.we.l;have hbp:b<p.length:=by have:=hb.we.f;omega
   have hop:o<p.length:=by have:=hb.we.t;omega
   have hvl:(plc p v).length<=100000:=by have h1:(plc p v).length<=v.length:=List.length_filter_le ..;have h2:=h.ww.ways v hv1;have h3:=DK h.fw.k.ok h2.1 h2.2;omega
   have hV:Hp3 p s (plc p v) b o:=⟨⟨hb.l2,hvl⟩,hb.p0,hb.p1,hb.p2,hbp,hop,hb.we.kd⟩;have hgb:=Vl h hk hkd hm;have e2:gG p r ws num s (m+1)=(gG p r ws num s m).set o (nth (gG p r ws num s m) o+1):=by
    refine Jm (by rw[wP,jV,jV]) fun i hi=> ?_
    rw[jV]at hi;have hh:hvP (fun v=>decide (lo p v=i)) (some v)=if i=o then 1 else 0:=by
     show(if decide (lo p v=i)=true then(1:Int)else 0)=_;rw[hlo];by_cases e:i=o
     . subst e;simp
     . rw[if_neg e,if_neg (by simpa using fun e'=>e e'.symm)]
    rw[bZ (by omega),v8 hi,lX h hk hkd hm _ hpk,hh];by_cases e:i=o
    . subst e;rw[if_pos rfl,if_pos rfl,v8 hi]
    . rw[if_neg e,if_neg e,v8 hi,wd]
   have e3:rR p r W ws num sent cut sl s (m+1)=rR p r W ws num sent cut sl s m:=XO (by show(pick _ _ _ _ _).isNone=false;rw[hpk];rfl);rw[e2,e3];have hPJ:∀g x,PJ p g x v=decide ((spt p b).kd=2/\(spt p b).nu=g/\(spt p o).nu=x):=fun g x=>by unfold PJ;rw[hlo,hbo]
   by_cases h2:(spt p b).kd=2
   . have ht:PJ p (spt p b).nu (spt p o).nu v=true:=by rw[hPJ];exact decide_eq_true ⟨h2,rfl,rfl⟩
     have hb1:=R5 h hk hkd hm (PJ p (spt p b).nu (spt p o).nu);have hg1:gP p r ws num (PJ p (spt p b).nu (spt p o).nu) s m=1:=by unfold gP;rw[hpk];unfold hvP;simp only[ht,if_true]
     rw[hg1]at hb1;obtain⟨a,ha,ag,ao⟩:=@Pe (spt p b).nu (spt p o).nu (aA p r fl) (by rw[<-Ja h];omega);have hb2:=R5 h hk hkd hm (fun v=>decide (lo p v=o));have hg2:gP p r ws num (fun v=>decide (lo p v=o)) s m=1:=by unfold gP;rw[hpk];unfold hvP;simp[hlo]
     rw[hg2]at hb2;obtain⟨ko,hko,_⟩:=hb.we.mo;have hO:=w_O h.fw.k.ok h.ww hko;have hfb:=h.ri.fb.b (p.length+nSi p+ko) (by
      have hl:(aJ p r).length=p.length+nSi p+nOi p+r.length:=bU p r;have:=(olt hko).1;show _<(aJ p r).length;omega)
     rw[show(net p r).a=aJ p r from rfl,BC hko]at hfb;have hfb:=hfb.2;simp only at hfb;have hna:=HL (Ax h).nd ha;rw[ag,ao,<-Ja h]at hna;have haL:a∈wL p r fl:=qP.2 ⟨o,hop,hb.we.kd,by omega,ha,ao,by omega⟩;obtain⟨j,hj,ej,hne⟩:=UT (BG h.fw.k.ok (Ax h).nd (wC _)) haL;have hja:(wL p r fl)[j]? =some a:=by rw[wG hj,ej]
     have hca:cC p r ws num s m a.g a.o=cS p (gP p r ws num (PJ p (spt p b).nu (spt p o).nu)) s m:=by unfold cC;rw[ag,ao]
     have hle:=Jb h (PJ p (spt p b).nu (spt p o).nu);have hse:=om h;have c12:=@Fy gl D W (cC p r ws num s m) (wL p r fl) j a (by omega) (by omega) hja (fun i y hi hy=>by
      have h5:=(wR.1 hy);have h6:=hne i h5.1 (by omega);rw[h5.2]at h6;exact h6) (by rw[hca];omega) (by omega) (by omega)
     have e1:(wls W (cC p r ws num s m) (wL p r fl)).set j (waV W a (cC p r ws num s m a.g a.o+1))=wls W (cC p r ws num s (m+1)) (wL p r fl):=by
      refine wY fun i=> ?_
      rw[List.getElem?_set,cx];by_cases e:j=i
      . subst e;rw[if_pos rfl,if_pos hj,pc hja];have:cC p r ws num s (m+1) a.g a.o=cC p r ws num s m a.g a.o+1:=by unfold cC;rw[lX h hk hkd hm _ hpk,ag,ao];unfold hvP;simp only[ht,if_true]
        rw[this]
      . rw[if_neg e];rcases wF i (wL p r fl).length with hi|hi
        . have hy:=wG hi;rw[pc hy,pc hy];have h6:=hne i hi (fun e'=>e e'.symm)
          have:cC p r ws num s (m+1) (wL p r fl)[i].g (wL p r fl)[i].o=cC p r ws num s m (wL p r fl)[i].g (wL p r fl)[i].o:=by
           unfold cC;rw[lX h hk hkd hm _ hpk];unfold hvP;simp only;rw[hPJ,if_neg]
           . exact wd _
           . intro hd;have hd:=of_decide_eq_true hd;rw[<-ag,<-ao]at hd;have:sm a.g a.o (wL p r fl)[i]=true:=hZ.2 ⟨hd.2.1.symm,hd.2.2.symm⟩;rw[h6]at this;cases this
          rw[this]
        . rw[wK (by rw[cx];exact hi),wK (by rw[cx];exact hi)]
     rw[e1,ag,ao]at c12;exact XK hs (by omega) hgl (by omega) (by omega) (by omega) hk hkd hm (by omega) hV h2 hgb c8 c12
   . have e1:cC p r ws num s (m+1)=cC p r ws num s m:=by
      funext g x;unfold cC;rw[lX h hk hkd hm _ hpk];unfold hvP;simp only;rw[hPJ,if_neg (fun hd=>h2 (of_decide_eq_true hd).1)];exact wd _
     rw[e1];exact X4 hs (by omega) hgl (by omega) (by omega) (by omega) hk hkd hm (by omega) hV h2 hgb c8
end
end
section
variable {p :List Sp} {r:List Rd} {W:Int} {ws:List (List Nat)} {num:List Int} {sent:Int} {cut:List Nat} {sl:Nat->Nat->List AV} {k a b:Nat}
theorem nx {a b c d:Nat}(h:∀G,cS p G a b=cS p G c d):cC p r ws num a b=cC p r ws num c d/\gG p r ws num a b=gG p r ws num c d :=
 ⟨by funext g o;exact h _,by unfold gG;exact wW fun o _=>h _⟩
end
section
variable {D :Nat} {q:PF} {p:List Sp} {r:List Rd} {w:Fq} {fl:List Int} {W:Int} {ws:List (List Nat)} {num rest:List Int} {sent:Int} {cut:List Nat} {sl:Nat->Nat->List AV} (h:LW gl D q p r w fl W ws num rest sent cut sl)
include h
theorem XS {k:Nat}(hk:k<p.length):aK K3o (evC gl (call gl tab D) L3o (S3o q p r w fl W (wL p r fl) (cC p r ws num k 0) (gG p r ws num k 0) (rR p r W ws num sent cut sl k 0) k)) =
  some (S3o q p r w fl W (wL p r fl) (cC p r ws num (k+1) 0) (gG p r ws num (k+1) 0) (rR p r W ws num sent cut sl (k+1) 0) (k+1)):=by
 have hs:q.s=sSp:=h.hq.s.resolve_left fun e=>by rw[e]at hk;simp at hk
 have x1:=da hk;have hcp:=h.fw.k.ok.cp k hk;have hc30:=h.fw.c k hk;have hnp:=h.fw.np;have key:∀N:Nat,N<=100->(∀m,m<N->aK K3i (evC gl (call gl tab D) L3i (S3i q p r w fl W (wL p r fl) (cC p r ws num k m) (gG p r ws num k m) (rR p r W ws num sent cut sl k m) k m)) =
   some (S3i q p r w fl W (wL p r fl) (cC p r ws num k (m+1)) (gG p r ws num k (m+1)) (rR p r W ws num sent cut sl k (m+1)) k (m+1)))->((N:Int)<(spt p k).cp->(spt p k).kd≠1) ->
   aK K3o (evC gl (call gl tab D) L3o (S3o q p r w fl W (wL p r fl) (cC p r ws num k 0) (gG p r ws num k 0) (rR p r W ws num sent cut sl k 0) k)) =
   some (S3o q p r w fl W (wL p r fl) (cC p r ws num k N) (gG p r ws num k N) (rR p r W ws num sent cut sl k N) (k+1)):=by
  intro N hN hst hex;have wl:=fun m=>cx W (cC p r ws num k m) (wL p r fl)
  have gg:=fun m=>ae (gG p r ws num k m)
  have rl:=fun m=>gk (rR p r W ws num sent cut sl k m)
  obtain⟨qb,qs,qc,qt⟩:=q;simp only at hs;subst hs;simp only[L3i,L3o,wq,K3i,List.reduceReplicate]at hst;simp(disch:=apply zq;omega) only[go_sem,simprocAttr,↓wB,xx,L3o,S3o,x1,ah];rw[aE (fun m=>S3i ⟨qb,sSp,qc,qt⟩ p r w fl W (wL p r fl) (cC p r ws num k m) (gG p r ws num k m) (rR p r W ws num sent cut sl k m) k m) N (by unfold LF;omega) ?_ hst ?_]
  . by_cases e:(N:Int)<(spt p k).cp
    . have b1:((spt p k).kd==1)=false:=by simpa using hex e
      simp(disch:=apply zq;omega) only[go_sem,simprocAttr,↓wB,xx,S3i,b1,rl]
    . simp(disch:=apply zq;omega) only[go_sem,simprocAttr,↓wB,xx,S3i,rl]
  . simp(disch:=apply zq;omega) only[go_sem,simprocAttr,↓wB,xx,S3i,rl]
  . by_cases e:(N:Int)<(spt p k).cp
    . have b1:((spt p k).kd==1)=false:=by simpa using hex e
      simp(disch:=apply zq;omega) only[go_sem,simprocAttr,↓wB,xx,S3i,b1]
    . simp(disch:=apply zq;omega) only[go_sem,simprocAttr,↓wB,xx,S3i]
 by_cases hkd:(spt p k).kd=1
 . have h1:=key (spt p k).cp.toNat (by omega) (fun m hm=>NB h hk hkd (by omega)) (fun hc=>by omega);obtain⟨e1,e2⟩:=@nx p r ws num k (spt p k).cp.toNat (k+1) 0 fun G=>T5 hkd
   have e3:rR p r W ws num sent cut sl k (spt p k).cp.toNat=rR p r W ws num sent cut sl (k+1) 0:=Rz hkd;exact h1.trans (by rw[e1,e2,e3])
 . have h1:=key 0 (by omega) (fun m hm=>absurd hm (wE m)) (fun _=>hkd);obtain⟨e1,e2⟩:=@nx p r ws num k 0 (k+1) 0 fun G=>OE hkd
   have e3:rR p r W ws num sent cut sl k 0=rR p r W ws num sent cut sl (k+1) 0:=M6 hkd;exact h1.trans (by rw[e1,e2,e3])
theorem Jc (P:List Nat->Bool):cS p (gP p r ws num P) p.length 0=sW P ws num:=by rw[Lv,I8 h]
theorem R4 {k:Nat}(hk:k<p.length)(hkd:(spt p k).kd=3):nth (gG p r ws num p.length 0) k<=(spt p k).cp:=by
 obtain⟨j,hj,e⟩:=List.getElem_of_mem (cZ.2 ⟨hk,hkd⟩:k∈ofK p 3 p.length);have hj':(ofK p 3 p.length)[j]? =some k:=by rw[wG hj,e]
 have hfb:=h.ri.fb.b (p.length+nSi p+j) (by
  have hl:(aJ p r).length=p.length+nSi p+nOi p+r.length:=bU p r;have:=(olt hj').1;show _<(aJ p r).length;omega)
 rw[show(net p r).a=aJ p r from rfl,BC hj']at hfb;rw[v8 hk,Jc h,w_O h.fw.k.ok h.ww hj'];exact hfb.2
theorem XX {a:Al}(ha:a∈wL p r fl):cC p r ws num p.length 0 a.g a.o=a.n:=by unfold cC;rw[Jc h];exact(Vm h ha).2.1
theorem XY :((rR p r W ws num sent cut sl p.length 0).length:Int)<=dm p p.length-sent/\(∀x∈rR p r W ws num sent cut sl p.length 0,RfC p r x/\x.wn=W/\x.sent=sent)/\(rR p r W ws num sent cut sl p.length 0).Pairwise Nm:=by
 refine⟨?_,fun x hx=> ?_,?_⟩
 . have h1:=Iw (p:=p) (mk:=mkR W sent cut sl) (Q:=nQ p r ws num) p.length 0;have e:cS p (fun k n=>if nQ p r ws num k n=true then 1 else 0) p.length 0=aL p (nP p r ws num) p.length:=Lv _ _ _;rw[e,q8 h]at h1;unfold rR;omega
 . unfold rR Fl.rA at hx;rw[rN,wQ]at hx;obtain⟨j,m,h1,h2,h3,h4,rfl⟩:=xY hx;exact⟨(Pr h h1 h2 (by omega) (Option.isNone_iff_eq_none.1 h4)).2.2,rfl,rfl⟩
 . unfold rR Fl.rA;rw[rN,wQ]
   exact Ir (fun j k a b hjk hh=>by
    obtain⟨h1,h2⟩:=hh;simp only at h1 h2;omega) _
end
noncomputable def L34:MC:=wq 4 m3
noncomputable def L36:MC:=wq 6 m3
section
variable (q :PF) (p:List Sp) (r:List Rd) (W:Int) (L:List Al) (C:Int->Int->Int) (G:List Int) (R:List Rf)
def S34 (k:Nat):St :=
 ⟨[.set 180 (i64 (k:Int)),.set 179 (i64 (p.length:Int)),.set 178 (.lst q.b q.s (ps p)),.set 11 (.sl 5011 [] 0 R.length),.set 10 (.sl 52 [] 0 p.length),.set 8 (.sl 44 [] 0 L.length),.set 7 (i64 W),.set 2 (.ptr 2 [])],
   [(5011,.grow yA8 (rfs R)),(44,.grow yAp (wls W C L)),(52,.grow .sc (ns G)),(2,.fix sPl (plV q p r))]⟩
def S36 (k:Nat):St :=
 ⟨[.set 200 (i64 (k:Int)),.set 199 (i64 (L.length:Int)),.set 198 (.sl 44 [] 0 L.length),.set 11 (.sl 5011 [] 0 R.length),.set 7 (i64 W),.set 2 (.ptr 2 [])],
   [(5011,.grow yA8 (rfs R)),(44,.grow yAp (wls W C L)),(2,.fix sPl (plV q p r))]⟩
end
section
variable {D :Nat} {q:PF} {p:List Sp} {r:List Rd} {W:Int} {L:List Al} {C:Int->Int->Int} {G:List Int} {R:List Rf} (hW:0<=W/\W<=1000) (hp:p.length<=20) (hL:L.length<=100000) (hR:R.length<=100000)
include hW hp hL hR
theorem QZ (hs:q.s=sSp)(hG:G.length=p.length){k:Nat}(hk:k<p.length)(hc:(spt p k).kd=3->nth G k<=(spt p k).cp):aK Uz (evC gl (call gl tab D) L34 (S34 q p r W L C G R k))=some (S34 q p r W L C G R (k+1)):=by
 have wl:=cx W C L;have rl:=gk R;have gg:=ae G;have x1:=da hk;have x2:=bc (l:=G) (show k<_ by omega);obtain⟨qb,qs,qc,qt⟩:=q;simp only at hs;subst hs;unfold S34;generalize wls W C L=WL at *
 generalize rfs R=RL at *
 generalize ns G=GL at *
 by_cases e:(spt p k).kd=3
 . have b1:((spt p k).kd==3)=true:=by simp[e]
   have b2:decide (nth G k>(spt p k).cp)=false:=decide_eq_false (by have:=hc e;omega);simp(maxSteps:=1000000) (disch:=apply zq;omega) only[go_sem,simprocAttr,↓wB,xx,L34,wl,rl,gg,x1,x2,b1,b2,ah,hG]
 . have b1:((spt p k).kd==3)=false:=by simpa using e
   simp(maxSteps:=1000000) (disch:=apply zq;omega) only[go_sem,simprocAttr,↓wB,xx,L34,wl,rl,gg,x1,x2,b1,ah,hG]
theorem QY (hD:8<=D){k:Nat}{a:Al}(ha:L[k]? =some a)(hn:1<=a.n/\a.n<=1073741824)(hc:C a.g a.o=a.n):aK K36 (evC gl (call gl tab D) L36 (S36 q p r W L C R k))=some (S36 q p r W L C R (k+1)):=by
 have wl:=cx W C L;have rl:=gk R;have hk:=(wR.1 ha).1;have x1:=pc (W:=W) (C:=C) ha;rw[hc]at x1;have c13:=@Eg gl D W a.n a.n (by omega) (by omega) (by omega) hD;rw[Int.sub_self]at c13;unfold S36;generalize wls W C L=WL at *
 generalize rfs R=RL at *
 simp(maxSteps:=1000000) (disch:=apply zq;omega) only[go_sem,simprocAttr,↓wB,xx,L36,wl,rl,x1,c13]
end
set_option maxHeartbeats 1000000 in
theorem Vw {D:Nat}{q:PF}{p:List Sp}{r:List Rd}{w:Fq}{fl:List Int}{W:Int}{ws:List (List Nat)}{num rest:List Int}{sent:Int}{cut:List Nat}{sl:Nat->Nat->List AV}(h:LW gl D q p r w fl W ws num rest sent cut sl)(hs:q.s=sSp)
  (c4:call gl tab D 4 [plV q p r] []=some (.bool true,[],[])) (c6:call gl tab D 6 [plV q p r] []=some (.tup [fqV w fl,i64 0],[],[])) (c5:call gl tab D 5 [] []=some (.bool true,[],[])) :
  call gl tab (D+1) 3 [plV q p r,.int .u8 W] []=some (.bool true,[],[]):=by
 have hD:=h.hD;have hW:=h.hW;have hnp:=h.fw.np;have hnr:=h.fw.nr;have c7:=@Jr gl D q p r w fl W h.hq h.fw.k (by omega) h.ri.fb.l h.sf.x (Ax h) (by omega) (by omega);have e7:wls W C0 (wL p r fl)=wls W (cC p r ws num 0 0) (wL p r fl):=rfl;rw[show wlt p (alo p r (rds p r fl) r.length) p.length=wL p r fl from rfl]at c7;rw[e7]at c7;have hst:=fun k hk=>@XS gl D q p r w fl W ws num rest sent cut sl h k hk
 obtain⟨r1,r2,r3⟩:=XY h;have hse:=om h;have hs0:=h.s0;have c14:=@Un gl D q p r false (rR p r W ws num sent cut sl p.length 0) W sent h.hq h.fw.k (by omega) (by omega) r1 (by omega) (by omega) r2 r3 (by omega);have wl:=fun k=>cx W (cC p r ws num k 0) (wL p r fl)
 have gg:=fun k=>ae (gG p r ws num k 0)
 have g3:=fun k=>jV p r ws num k 0
 have rl:=fun k=>gk (rR p r W ws num sent cut sl k 0)
 have rt:List.take (rR p r W ws num sent cut sl p.length 0).length (rfs (rR p r W ws num sent cut sl p.length 0))=rfs (rR p r W ws num sent cut sl p.length 0):=wT (by rw[gk];exact wC _);have hwl:=Pq h;have h4:=fun k hk=>@QZ gl D q p r W (wL p r fl) (cC p r ws num p.length 0) (gG p r ws num p.length 0) (rR p r W ws num sent cut sl p.length 0) hW (by omega) (by omega) (by omega) hs (jV ..) k hk (R4 h hk)
 have h6:∀k,k<(wL p r fl).length->aK K36 (evC gl (call gl tab D) L36 (S36 q p r W (wL p r fl) (cC p r ws num p.length 0) (rR p r W ws num sent cut sl p.length 0) k))=some (S36 q p r W (wL p r fl) (cC p r ws num p.length 0) (rR p r W ws num sent cut sl p.length 0) (k+1)):=fun k hk=>by have ha:=wG hk;have h8:=Vm h (wJ ha);exact QY hW (by omega) (by omega) (by omega) (by omega) ha (by omega) (XX h (wJ ha))
 have l1:p.length<=LIM:=by unfold LIM;omega
 have e0:ns (gG p r ws num 0 0)=List.replicate p.length (.int .i64 0):=by
  refine wY fun i=> ?_
  rcases wF i p.length with hi|hi
  . rw[bc (by rw[jV];exact hi),v8 hi,Yd,wS,if_pos hi]
  . rw[wK (by rw[ae,jV];exact hi),wS,if_neg (by omega)]
 have e1:rR p r W ws num sent cut sl 0 0=[]:=rfl;obtain⟨qb,qs,qc,qt⟩:=q;simp only at hs;subst hs;simp only[L3o,wq,K3o,List.reduceReplicate]at hst;simp only[L34,wq,Uz,List.reduceReplicate]at h4;simp only[L36,wq,K36,List.reduceReplicate]at h6;rw[au (fd:=fd3) rfl];simp(maxSteps:=1000000) (disch:=apply zq;omega) only[go_sem,simprocAttr,↓wB,xx,fd3,m3,c4,c6,c7,ah,l1,wl];rw[aE (fun k=>S3o ⟨qb,sSp,qc,qt⟩ p r w fl W (wL p r fl) (cC p r ws num k 0) (gG p r ws num k 0) (rR p r W ws num sent cut sl k 0) k) p.length (by unfold LF;omega) ?_ hst ?_]
 . simp(maxSteps:=1000000) (disch:=apply zq;omega) only[go_sem,simprocAttr,↓wB,xx,S3o,wl,gg,g3,rl,ah];rw[aE (S34 ⟨qb,sSp,qc,qt⟩ p r W (wL p r fl) (cC p r ws num p.length 0) (gG p r ws num p.length 0) (rR p r W ws num sent cut sl p.length 0)) p.length (by unfold LF;omega) ?_ h4 ?_]
   . simp(maxSteps:=1000000) (disch:=apply zq;omega) only[go_sem,simprocAttr,↓wB,xx,S34,wl,gg,g3,rl];rw[aE (S36 ⟨qb,sSp,qc,qt⟩ p r W (wL p r fl) (cC p r ws num p.length 0) (rR p r W ws num sent cut sl p.length 0)) (wL p r fl).length (by unfold LF;omega) ?_ h6 ?_]
     . simp(maxSteps:=1000000) (disch:=apply zq;omega) only[go_sem,simprocAttr,↓wB,xx,S36,wl,rl,rt,c14,c5]
     . simp(maxSteps:=1000000) (disch:=apply zq;omega) only[go_sem,simprocAttr,↓wB,xx,S36,wl,rl]
     . simp(maxSteps:=1000000) (disch:=apply zq;omega) only[go_sem,simprocAttr,↓wB,xx,S36]
   . simp(maxSteps:=1000000) (disch:=apply zq;omega) only[go_sem,simprocAttr,↓wB,xx,S34,wl,gg,g3,rl]
   . simp(maxSteps:=1000000) (disch:=apply zq;omega) only[go_sem,simprocAttr,↓wB,xx,S34]
 . simp(maxSteps:=1000000) (disch:=apply zq;omega) only[go_sem,simprocAttr,↓wB,xx,S3o,wl,gg,g3,rl,e0,e1,rfs,List.map_nil,List.length_nil]
 . simp(maxSteps:=1000000) (disch:=apply zq;omega) only[go_sem,simprocAttr,↓wB,xx,S3o]
abbrev kSp :Kd:=.st [.int .i64,.int .i64,.int .i64]
abbrev kRd :Kd:=.st [.int .i64,.int .i64,.int .i64,.int .i64]
abbrev kP :Kd:=.st [.sl kSp,.sl kRd]
theorem Vy :∀{l:List AV},(∀x∈l,HasKd kSp x)->∃r:List Sp,l=ps r
 | [],_=>⟨[],rfl⟩
 | x::l,h=>by
   obtain⟨k,rfl,hx⟩:=h x (by simp);simp only[HasKds]at hx;obtain⟨_,_,rfl,⟨a,rfl,_⟩,_,_,rfl,⟨b,rfl,_⟩,_,_,rfl,⟨c,rfl,_⟩,rfl⟩:=hx;obtain⟨r,rfl⟩:=Vy (l:=l) fun y hy=>h y (by simp[hy])
   exact⟨⟨a,b,c⟩::r,rfl⟩
theorem Vz :∀{l:List AV},(∀x∈l,HasKd kRd x)->∃r:List Rd,l=ds r
 | [],_=>⟨[],rfl⟩
 | x::l,h=>by
   obtain⟨k,rfl,hx⟩:=h x (by simp);simp only[HasKds]at hx;obtain⟨_,_,rfl,⟨a,rfl,_⟩,_,_,rfl,⟨b,rfl,_⟩,_,_,rfl,⟨c,rfl,_⟩,_,_,rfl,⟨e,rfl,_⟩,rfl⟩:=hx;obtain⟨r,rfl⟩:=Vz (l:=l) fun y hy=>h y (by simp[hy])
   exact⟨⟨a,b,c,e⟩::r,rfl⟩
theorem kdP {x:AV}(h:HasKd kP x):∃(p:List Sp) (r:List Rd),x=plV ⟨false,yA3,false,yA4⟩ p r/\p.length<=9223372036854775807/\r.length<=9223372036854775807:=by
 obtain⟨k,rfl,hx⟩:=h;simp only[HasKds]at hx;obtain⟨_,_,rfl,⟨d1,rfl,hd1,h1⟩,_,_,rfl,⟨d2,rfl,hd2,h2⟩,rfl⟩:=hx;obtain⟨p,rfl⟩:=Vy h1;obtain⟨r,rfl⟩:=Vz h2;refine⟨p,r,rfl,?_,?_⟩
 . have:=hd1;simp[Go.maxLen,ah]at this;omega
 . have:=hd2;simp[Go.maxLen,aQ]at this;omega
theorem V3 {d:Nat}{q:PF}{p:List Sp}{r:List Rd}{w:Fq}{fl:List Int}{sent:Int}{ws:List (List Nat)}{num rest:List Int}(hq:PFOk q p r)(fw:FW p r)(hs:sent<=1000000)(hw:WS (net p r) fl sent ws num rest 0)
  (c63:call gl tab (d+5) 63 [nV (net p r) false yA4,i64 0,i64 1,.lst w.b1 .sc (ns fl)] []=some (P.pathV ws num,[],P.pathO ws num)) {k m:Nat} (hk:k<p.length) (hkd:(spt p k).kd=1) (hm:m<=1073741824) :
  call gl tab (d+7) 8 [plV q p r,fqV w fl,i64 (k:Int),i64 (m:Int)] []=some (rtV p (pick (aJ p r) (2+2*k) ws num (m:Int)),[],[]):=by
 have hnp:=fw.np;have hnr:=fw.nr;have hln:=hw.ln;have hle:=hw.len;obtain⟨i,hi,c8⟩:=P.route_at hq fw.k (by omega) (by omega) hk hln (by omega) (fun v hv=>by
  obtain⟨h1,h2⟩:=hw.ways v hv;have h3:=DK fw.k.ok h1 h2;refine⟨?_,by omega,fun i hi=>iT h1 hi⟩;rcases v with _|⟨x,y⟩
  . cases h1
  . simp) hw.pos (show 0<=(m:Int)/\(m:Int)<=1073741824 by omega) c63 hkd
 rw[c8,DZ hln hi];by_cases e:i<ws.length
 . rw[if_pos e,if_pos e,if_pos e];rfl
 . rw[if_neg e,if_neg e,if_neg e];rfl
theorem law3 [Nonempty (H.GlK gl)](hn:100<=n)(ar:List AV)(h:HasKds [kP,.int .u8] ar):call gl tab (n+1) 3 ar []=some (.bool true,[],[]):=by
 simp only[HasKds]at h;obtain⟨_,_,rfl,h1,_,_,rfl,⟨W,rfl,hW0,hW1⟩,rfl⟩:=h;obtain⟨p,r,rfl,lp,lr⟩:=kdP h1;have hW0:0<=W:=hW0;have hW1:W<=255:=hW1;have hq:PFOk ⟨false,yA3,false,yA4⟩ p r:=⟨.inr rfl,.inr rfl⟩;have c5:=@LC gl n _ (by omega);obtain⟨b,hb,c4⟩:=@NI gl n (by omega) ⟨false,yA3,false,yA4⟩ p r hq lp lr
 cases b with
 | false =>rw[au (fd:=fd3) rfl];simp(disch:=apply zq;omega) only[go_sem,simprocAttr,↓wB,xx,fd3,m3,c4,c5]
 | true =>
   have fw:=hb rfl;have hnp:=fw.np;have hnr:=fw.nr;have hd:=fw.d;obtain⟨fl,pr,sent,cut,hs,c6⟩:=@Ef gl n ⟨false,yA3,false,yA4⟩ p r hq fw.k hnp hnr (by omega);obtain⟨w,e1,w1,w2,w3,w4⟩:=PN (net p r) fl pr sent cut;rw[e1]at c6;have hsf:=UH hq fw.k hnp hnr hs;have hsa:=hs.si.sa;have hri:RI (net p r) fl sent:=⟨hs.si.fb,hs.si.gv⟩;have hco:sent<dm p p.length->CutOk p r fl sent cut:=fun hlt=>Lj hq fw.k (by omega) (by omega) hs hlt
   have hsl:∀x:Nat×Nat,∃s,x.1<p.length->(spt p x.1).kd=1->nth fl x.1<=x.2->(x.2:Int)<(spt p x.1).cp->sent<dm p p.length->SlOk s /\
     call gl tab n 9 [kyV (1000+(spt p x.1).nu) 1 [115] 0 1099511627776,plV ⟨false,yA3,false,yA4⟩ p r,fqV w fl,i64 (x.1:Int),i64 (x.2:Int),i64 W,.agg [i64 (1000*W),i64 (1000*W+9)]] []=some (.tup [rfV (mkR W sent cut (fun _ _=>s) x.1 x.2),i64 0],[],[]):=fun x=>by
    by_cases hc:x.1<p.length/\(spt p x.1).kd=1/\nth fl x.1<=x.2/\(x.2:Int)<(spt p x.1).cp/\sent<dm p p.length
    . obtain⟨a1,a2,a3,a4,a5⟩:=hc;have hku:=(fw.k.s x.1 a1).k
      obtain⟨s,s1,s2⟩:=@Ag gl n _ (by omega) ⟨false,yA3,false,yA4⟩ p r hq fw.k (by omega) (by omega) sent fl pr cut hs w w1 w2 w3 w4 (fun e=>by have:=(hco a5).h0;rw[e]at this;cases this)
       ⟨1000+(spt p x.1).nu,1,[115],0,1099511627776⟩ ⟨by simp only;omega,by simp only;omega,by simp,by simp only;omega,by simp only;omega⟩ x.1 a1 a2 rfl (x.2:Int) W (1000*W) (1000*W+9) a3 a4 (by omega) (by omega) (by omega) (by omega)
      exact⟨s,fun _ _ _ _ _=>⟨s1,s2⟩⟩
    . exact⟨[],fun a1 a2 a3 a4 a5=>absurd ⟨a1,a2,a3,a4,a5⟩ hc⟩
   obtain⟨f,hf⟩:=wh hsl;obtain⟨d,rfl⟩:=wD (show 7<=n by omega);have main:∀ws num rest,WS (net p r) fl sent ws num rest 0->(∀k m:Nat,k<p.length->(spt p k).kd=1->m<=1073741824->call gl tab (d+7) 8 [plV ⟨false,yA3,false,yA4⟩ p r,fqV w fl,i64 (k:Int),i64 (m:Int)] []=some (rtV p (pick (aJ p r) (2+2*k) ws num (m:Int)),[],[])) ->
     call gl tab (d+7+1) 3 [plV ⟨false,yA3,false,yA4⟩ p r,.int .u8 W] []=some (.bool true,[],[]):=fun ws num rest hw c8 =>
    Vw (w:=w) (fl:=fl) (sl:=fun k m=>f (k,m)) ⟨hq,fw,by omega,hri,hw,hsf,hsa.1,by omega,c8,hco,fun k m a1 a2 a3 a4 a5=>hf (k,m) a1 a2 a3 a4 a5⟩ rfl c4 c6 c5
   by_cases hp0:0<p.length
   . have hg:=gQ hq fw.k (by omega) (by omega);have hln:=bU p r;obtain⟨ws,num,rest,hw,c63⟩:=@P.paths_at gl (d+5) (net p r) false w.b1 fl sent hg (fun i hi=>rz fw.k.ok hi) (by show 2<=2+2*p.length;omega) (by show 0<(aJ p r).length;omega) hri (by omega) (by omega);exact main ws num rest hw fun k m hk hkd hm=>V3 hq fw (by omega) hw c63 hk hkd hm
   . have hz:sent=0:=by
      have:dm p p.length=0:=by rw[show p.length=0 by omega];rfl
      omega
     subst hz;exact main [] [] fl {ri:=hri,ln:=rfl,ways:=(fun w h=>by cases h),pos:=(fun x h=>by cases h),len:=by simp,l0:=wb _,dec:=fun A _ i _ _ _=>by simp[rD]} fun k m hk=>absurd hk (by omega)
end Go.Proofs.S51
namespace Go.Proofs.YtaloneiaejhopaaGreatDoor
open Go Go.Ev Go.Proofs Go.ChangeShapes Go.WideShapes Go.ChangeAt Go.RowKit
theorem own :ownKnob Tryz.prog.godebug=none:=by kernel_rfl
theorem X5 :Tryz.prog.globalNamed "weirgate/hash.constants" =some 0:=by kernel_rfl
theorem VN :(Tryz.prog.globals[0]?).map (·.type)=some 217:=by kernel_rfl
theorem XZ :qL Tryz.prog 8 217=some (.ar 64 (.int .u32)):=by kernel_rfl
theorem Xb :AV.agg S51.kA=avD (H:=Unit) (.ar 64 (.int .u32)) Rows.laid_weirgate_hash_constants:=by kernel_rfl
theorem R9 :laidOutB Tryz.prog=true:=by kernel_rfl
theorem J7 {P:Program}{t t':Nat->Option (Sh×AV)}{ri:Nat->Option RInfo}{f:Nat}{fd:Ev.Fd}(h:FnOk P ⟨t,ri⟩ f fd):FnOk P ⟨t',ri⟩ f fd:=by
 cases h with
 | code h hlt ok=>exact .code h hlt ⟨ok.ok⟩
 | given g h hlt ok=>exact .given g h hlt ok
 | round rid ps sl ma mb hf h ok=>exact .round rid ps sl ma mb hf h ⟨ok.ok⟩
noncomputable def gl1:Gl:=⟨fun g=>match g with|0=>some (.ar 64 .sc,.agg S51.kA)|_=>none,S51.ri⟩
theorem Mf :∀f fd,S51.tab f=some fd->FnOk Tryz.prog gl1 f fd:=fun f fd h=>J7 (S51.tab_ok f fd h)
theorem SA :Nonempty (S51.H.GlK gl1):=⟨⟨rfl⟩⟩
abbrev Ps :List (String×DataW Unit):=[("weirgate/hash.constants",Rows.laid_weirgate_hash_constants)]
theorem VL {W:World}(h:laidMetH Tryz.prog Ps W):TabOk W.heap gl1:=by
 have h:laidMet Tryz.prog Ps W:=h;refine Gm h fun g sh a hg=> ?_
 match g,hg with
 | 0,hg =>obtain⟨rfl,rfl⟩:=Prod.mk.inj (Option.some.inj hg);exact⟨_,List.mem_cons_self,8,217,_,X5,VN,XZ,rfl,Xb⟩
 | _+1,hg=>cases hg
def Ln :Array Value:=(S51.kList.map fun x=>Value.int .u32 (x.toNat:Int)).toArray
def put (vs:Array Value):Obj->Obj
 | .cells _ t frozen=>.cells vs t frozen
 | o=>o
noncomputable def pA (os:Os):World :=
 {World.holding Tryz.prog os ⟨#[],#[],[]⟩with heap:=(World.holding Tryz.prog os ⟨#[],#[],[]⟩).heap.modify 0 (put Ln)}
end Go.Proofs.YtaloneiaejhopaaGreatDoor
