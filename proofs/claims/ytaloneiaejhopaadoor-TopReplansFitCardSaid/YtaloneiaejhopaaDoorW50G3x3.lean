/-
  The network of a plant; what origins get (plain Lean). No condition; no program.
-/
import Derived.Test.YtaloneiaejhopaaDoorW50G2x3
set_option linter.all false
open List renaming getD_eq_getElem?_getD->wB,length_append->wC,mem_map->wD,getElem?_eq_getElem->wE,mem_append->wF,length_map->wG,getElem?_append_left->wH,append_assoc->wJ,length_drop->wK,take_append_drop->wL,getElem_of_mem->wM,length_take->wN,dropLast_concat_getLast->wO,mem_singleton->wP,cons_append->wQ,drop_drop->wR
namespace Go.Fl
structure Sp where
 kd:Int
 nu:Int
 cp:Int
structure Rd where
 f:Int
 t:Int
 c:Int
 k:Int
def spt (l:List Sp)(i:Nat):Sp:=l.getD i ⟨0,0,0⟩
def rdt (l:List Rd)(i:Nat):Rd:=l.getD i ⟨0,0,0,0⟩
structure POk (p:List Sp)(r:List Rd):Prop where
 pn:p.length<=100
 rn:r.length<=1500
 kd:∀i,i<p.length->(spt p i).kd=1\/(spt p i).kd=2\/(spt p i).kd=3
 nu:∀i,i<p.length->0<=(spt p i).nu/\(spt p i).nu<=1073741824
 cp:∀i,i<p.length->0<=(spt p i).cp/\(spt p i).cp<=1073741824
 tw:∀i j,i<j->j<p.length->¬((spt p i).kd=(spt p j).kd/\(spt p i).nu=(spt p j).nu)
 rf:∀i,i<r.length->0<=(rdt r i).f/\(rdt r i).f<p.length/\0<=(rdt r i).t/\(rdt r i).t<p.length/\(rdt r i).f≠(rdt r i).t
 rc:∀i,i<r.length->0<=(rdt r i).c/\(rdt r i).c<=1073741824/\0<=(rdt r i).k/\(rdt r i).k<=1048576
 rk:∀i,i<r.length->(spt p (rdt r i).f.toNat).kd≠3/\(spt p (rdt r i).t.toNat).kd≠1
def ofK (p:List Sp)(kd:Int):Nat->List Nat
 | 0=>[]
 | i+1=>if(spt p i).kd=kd then ofK p kd i++[i]else ofK p kd i
theorem zdj {p:List Sp}{kd:Int}{x:Nat}:∀{i:Nat},x∈ofK p kd i↔x<i/\(spt p x).kd=kd
 | 0=>by simp[ofK]
 | i+1=>by
   rw[ofK]
   split
   . rename_i h
     rw[wF,zdj,wP]
     constructor
     . rintro (⟨h1,h2⟩|rfl)
       . exact⟨by omega,h2⟩
       . exact⟨by omega,h⟩
     . rintro ⟨h1,h2⟩
       by_cases e:x=i
       . exact .inr e
       . exact .inl ⟨by omega,h2⟩
   . rename_i h
     rw[zdj]
     constructor
     . rintro ⟨h1,h2⟩;exact⟨by omega,h2⟩
     . rintro ⟨h1,h2⟩
       by_cases e:x=i
       . rw[e]at h2;exact absurd h2 h
       . exact⟨by omega,h2⟩
def aP (p:List Sp):Nat->List Ar
 | 0=>[]
 | i+1=>aP p i++[⟨2+2*i,3+2*i,(spt p i).cp,0⟩]
def aS (p:List Sp)(l:List Nat):List Ar:=l.map fun i=>⟨0,2+2*i,(spt p i).cp,0⟩
def aO (p:List Sp)(l:List Nat):List Ar:=l.map fun i=>⟨3+2*i,1,(spt p i).cp,0⟩
def aR (r:List Rd):List Ar:=r.map fun x=>⟨3+2*x.f.toNat,2+2*x.t.toNat,x.c,x.k⟩
def netA (p:List Sp)(r:List Rd):List Ar:=aP p p.length++aS p (ofK p 1 p.length)++aO p (ofK p 3 p.length)++aR r
def net (p:List Sp)(r:List Rd):Nt:=⟨2+2*p.length,netA p r⟩
def dem (p:List Sp):List Nat->Int
 | []=>0
 | i::l=>(spt p i).cp+dem p l
theorem zc8 (p:List Sp):∀i,(aP p i).length=i
 | 0=>rfl
 | i+1=>by rw[aP,wC,zc8 p i];rfl
theorem zin {l:List Ar}{i:Nat}(h:i<l.length):art l i∈l:=by
 unfold art;rw[wB,wE h];exact List.getElem_mem h
theorem zxr {p:List Sp}{a:Ar}:∀{n:Nat},a∈aP p n->∃i,i<n/\a=⟨2+2*i,3+2*i,(spt p i).cp,0⟩
 | 0,h=>by simp[aP]at h
 | n+1,h=>by
   rw[aP,wF,wP]at h
   rcases h with h|rfl
   . obtain⟨i,h1,h2⟩:=zxr h;exact⟨i,by omega,h2⟩
   . exact⟨n,by omega,rfl⟩
theorem zpu {r:List Rd}{x:Rd}(h:x∈r):∃i,i<r.length/\rdt r i=x:=by
 obtain⟨i,hi,e⟩:=wM h
 exact⟨i,hi,by unfold rdt;rw[wB,wE hi];exact e⟩
theorem qht {p:List Sp}{r:List Rd}(h:POk p r):NOk (net p r) 1048576:=by
 have key:∀a∈netA p r,a.f<2+2*p.length/\a.t<2+2*p.length/\a.f≠a.t/\0<=a.c/\0<=a.k/\a.k<=1048576:=by
  intro a ha
  unfold netA at ha
  rw[wF,wF,wF]at ha
  rcases ha with ((ha|ha)|ha)|ha
  . obtain⟨i,hi,rfl⟩:=zxr ha
    have:=h.cp i hi
    exact⟨by show 2+2*i<_;omega,by show 3+2*i<_;omega,by show 2+2*i≠3+2*i;omega,this.1,Int.le_refl _,by show(0:Int)<=_;decide⟩
  . unfold aS at ha
    obtain⟨i,hi,rfl⟩:=wD.1 ha
    have hi:=(zdj.1 hi).1
    have:=h.cp i hi
    exact⟨by show 0<_;omega,by show 2+2*i<_;omega,by show 0≠2+2*i;omega,this.1,Int.le_refl _,by show(0:Int)<=_;decide⟩
  . unfold aO at ha
    obtain⟨i,hi,rfl⟩:=wD.1 ha
    have hi:=(zdj.1 hi).1
    have:=h.cp i hi
    exact⟨by show 3+2*i<_;omega,by show 1<_;omega,by show 3+2*i≠1;omega,this.1,Int.le_refl _,by show(0:Int)<=_;decide⟩
  . unfold aR at ha
    obtain⟨x,hx,rfl⟩:=wD.1 ha
    obtain⟨i,hi,rfl⟩:=zpu hx
    have h1:=h.rf i hi
    have h2:=h.rc i hi
    exact⟨by show 3+2*(rdt r i).f.toNat<_;omega,by show 2+2*(rdt r i).t.toNat<_;omega,by show 3+2*(rdt r i).f.toNat≠2+2*(rdt r i).t.toNat;omega,h2.1,h2.2.2.1,h2.2.2.2⟩
 exact⟨fun i hi=>(key _ (zin hi)).1,fun i hi=>(key _ (zin hi)).2.1,fun i hi=>(key _ (zin hi)).2.2.1,fun i hi=>(key _ (zin hi)).2.2.2.1,fun i hi=>(key _ (zin hi)).2.2.2.2⟩
def sIf (P:Ar->Bool):List Ar->List Int->Int
 | a::l,x::f=>(if P a then x else 0)+sIf P l f
 | _,_=>0
theorem zet (P:Ar->Bool):∀{a b:List Ar} {f g:List Int},a.length=f.length->sIf P (a++b) (f++g)=sIf P a f+sIf P b g
 | [],b,[],g,_=>by simp[sIf]
 | x::a,b,y::f,g,h=>by
   rw[wQ,wQ,sIf,sIf,zet P (by simpa using h)];omega
 | [],_,_::_,_,h=>by simp at h
 | _::_,_,[],_,h=>by simp at h
theorem zrp {P:Ar->Bool}:∀{a:List Ar} {f:List Int},(∀x∈a,P x=false)->sIf P a f=0
 | [],_,_=>by simp[sIf]
 | x::a,[],_=>by simp[sIf]
 | x::a,y::f,h=>by
   rw[sIf,h x (by simp),zrp fun z hz=>h z (by simp[hz])];rfl
theorem zpj {P:Ar->Bool}:∀{a:List Ar} {f:List Int} {i:Nat},a.length=f.length->i<a.length->P (art a i)=true->(∀j,j<a.length->j≠i->P (art a j)=false)->sIf P a f=nth f i
 | [],f,i,_,hi,_,_=>by simp at hi
 | x::a,[],i,h,_,_,_=>by simp at h
 | x::a,y::f,0,h,hi,hp,hn=>by
   have hp':P x=true:=hp
   rw[sIf,if_pos hp',zrp fun z hz=>by
    obtain⟨j,hj,rfl⟩:=wM hz
    have:=hn (j+1) (by simpa using hj) (by omega)
    unfold art at this
    rw[List.getD_cons_succ,wB,wE hj]at this
    exact this]
   simp[nth]
 | x::a,y::f,i+1,h,hi,hp,hn=>by
   have h0:P x=false:=hn 0 (by simp) (by omega)
   rw[sIf,h0]
   have:=zpj (P:=P) (a:=a) (f:=f) (i:=i) (by simpa using h) (by simpa using hi) (by simpa[art]using hp) (fun j hj hne=>by
    have:=hn (j+1) (by simpa using hj) (by omega)
    simpa[art]using this)
   rw[this];simp[nth]
theorem z5l (a:List Ar)(x:Ar){i:Nat}(h:i<a.length):art (a++[x]) i=art a i:=by
 unfold art;rw[wB,wB,wH h]
theorem z3u {a b:List Ar}{f g:List Int}{v:Nat}:∀{m:Nat},(∀i,i<m->art a i=art b i/\nth f i=nth g i)->giv a f v m=giv b g v m
 | 0,_=>rfl
 | m+1,h=>by
   rw[giv,giv,z3u fun i hi=>h i (by omega),(h m (by omega)).1,(h m (by omega)).2]
theorem zsz (v:Nat):∀(n:Nat) {a:List Ar} {f:List Int},a.length=n->f.length=n->giv a f v n=sIf (fun x=>decide (x.f=v)) a f-sIf (fun x=>decide (x.t=v)) a f
 | 0,a,f,h,h'=>by
   obtain rfl:=List.length_eq_zero_iff.1 h
   simp[giv,sIf]
 | n+1,a0,f0,h,h'=>by
   obtain⟨a,x,rfl⟩:∃g y,a0=g++[y]:=by
    have hne:a0≠[]:=fun e=>by rw[e]at h;simp at h
    exact⟨a0.dropLast,a0.getLast hne,(wO hne).symm⟩
   obtain⟨g,y,rfl⟩:∃g y,f0=g++[y]:=by
    have hne:f0≠[]:=fun e=>by rw[e]at h';simp at h'
    exact⟨f0.dropLast,f0.getLast hne,(wO hne).symm⟩
   have hl:a.length=n:=by simpa using h
   have hl':g.length=n:=by simpa using h'
   rw[giv,zet _ (hl.trans hl'.symm),zet _ (hl.trans hl'.symm)]
   have e1:giv (a++[x]) (g++[y]) v n=giv a g v n:=z3u fun i hi=>⟨z5l a x (by omega),by unfold nth;rw[wB,wB,wH (by omega)]⟩
   have e2:art (a++[x]) n=x:=by unfold art;rw[<-hl];simp
   have e3:nth (g++[y]) n=y:=by unfold nth;rw[<-hl'];simp
   rw[e1,zsz v n hl hl',e2,e3]
   simp only[sIf,decide_eq_true_eq]
   omega
theorem z3s (v:Nat){a:List Ar}{f:List Int}(h:a.length=f.length):giv a f v a.length=sIf (fun x=>decide (x.f=v)) a f-sIf (fun x=>decide (x.t=v)) a f:=zsz v _ rfl h.symm
end Go.Fl
namespace Go.Fl
theorem zxn {p:List Sp}{i:Nat}:∀{n:Nat},i<n->art (aP p n) i=⟨2+2*i,3+2*i,(spt p i).cp,0⟩
 | 0,h=>absurd h (Nat.not_lt_zero _)
 | n+1,h=>by
   rw[aP]
   by_cases e:i=n
   . subst e
     unfold art
     rw[wB,List.getElem?_append_right (by rw[zc8];exact Nat.le_refl _),zc8];simp
   . rw[z5l _ _ (by rw[zc8];omega),zxn (show i<n by omega)]
theorem zln {p:List Sp}{r:List Rd}{i:Nat}(h:i<p.length):art (netA p r) i=⟨2+2*i,3+2*i,(spt p i).cp,0⟩:=by
 rw[<-zxn h]
 unfold netA art
 rw[wB,wB,wJ,wJ,wH (by rw[zc8];exact h)]
theorem zd3 (p:List Sp)(r:List Rd):(netA p r).length=p.length+(ofK p 1 p.length).length+(ofK p 3 p.length).length+r.length:=by
 unfold netA aS aO aR
 rw[wC,wC,wC,zc8,wG,wG,wG]
def rds (p:List Sp)(r:List Rd)(fl:List Int):List Int:=fl.drop (p.length+(ofK p 1 p.length).length+(ofK p 3 p.length).length)
theorem z09 {p:List Sp}{r:List Rd}{fl:List Int}(h:fl.length=(netA p r).length):(rds p r fl).length=r.length:=by
 unfold rds;rw[wK,h,zd3];omega
def sRd (P:Rd->Bool):List Rd->List Int->Int
 | x::l,y::f=>(if P x then y else 0)+sRd P l f
 | _,_=>0
theorem z0r {P:Ar->Bool}{Q:Rd->Bool}:∀{r:List Rd} {f:List Int},(∀x∈r,P ⟨3+2*x.f.toNat,2+2*x.t.toNat,x.c,x.k⟩=Q x)->sIf P (aR r) f=sRd Q r f
 | [],f,_=>by unfold aR;cases f<;>rfl
 | x::r,[],_=>rfl
 | x::r,y::f,h=>by
   have:=z0r (P:=P) (Q:=Q) (r:=r) (f:=f) fun z hz=>h z (by simp[hz])
   show(if P _ then y else 0)+sIf P (aR r) f=_
   rw[h x (by simp),this];rfl
theorem qlf {g:Nt}{fl:List Int}(h:FB g fl):∀x∈fl,0<=x:=fun x hx=>by
 obtain⟨i,hi,e⟩:=wM hx
 have:=(h.b i (by rw[<-h.l];exact hi)).1
 unfold nth at this
 rw[wB,wE hi]at this
 rw[<-e];exact this
theorem z1r {p:List Sp}{r:List Rd}(h:POk p r){fl:List Int}(hb:FB (net p r) fl){i:Nat}(hi:i<p.length)(hk:(spt p i).kd=3)(hz:giv (netA p r) fl (2+2*i) (netA p r).length=0) :
  sRd (fun x=>decide (x.t=i)) r (rds p r fl)=nth fl i:=by
 have hl:fl.length=(netA p r).length:=hb.l
 have hlen:=zd3 p r
 rw[z3s _ hl.symm]at hz
 have e0:fl=fl.take p.length++(fl.drop p.length).take (ofK p 1 p.length).length++((fl.drop p.length).drop (ofK p 1 p.length).length).take (ofK p 3 p.length).length++rds p r fl:=by
  unfold rds
  rw[wJ,wJ,<-wR,<-wR,wL,wL,wL]
 have l1:(aP p p.length).length=(fl.take p.length).length:=by rw[zc8,wN];omega
 have l2:(aS p (ofK p 1 p.length)).length=((fl.drop p.length).take (ofK p 1 p.length).length).length:=by unfold aS;rw[wG,wN,wK];omega
 have l3:(aO p (ofK p 3 p.length)).length=(((fl.drop p.length).drop (ofK p 1 p.length).length).take (ofK p 3 p.length).length).length:=by unfold aO;rw[wG,wN,wK,wK];omega
 have n1:nth (fl.take p.length) i=nth fl i:=by
  unfold nth;rw[wB,wB,List.getElem?_take_of_lt hi]
 have split:∀P,sIf P (netA p r) fl=sIf P (aP p p.length) (fl.take p.length)+sIf P (aS p (ofK p 1 p.length)) ((fl.drop p.length).take (ofK p 1 p.length).length)+sIf P (aO p (ofK p 3 p.length)) (((fl.drop p.length).drop (ofK p 1 p.length).length).take (ofK p 3 p.length).length)+sIf P (aR r) (rds p r fl):=fun P=>by
  conv=>lhs;rw[e0]
  unfold netA
  rw[zet P (by rw[wC,wC,wC,wC,l1,l2,l3]),zet P (by rw[wC,wC,l1,l2]),zet P l1]
 rw[split,split]at hz
 have a1:sIf (fun x=>decide (x.f=2+2*i)) (aP p p.length) (fl.take p.length)=nth fl i:=by
  rw[<-n1]
  refine zpj l1 (by rw[zc8];exact hi) ?_ fun j hj hne=> ?_
  . rw[zxn hi];simp
  . rw[zc8]at hj
    rw[zxn hj];simp;omega
 have a2:sIf (fun x=>decide (x.t=2+2*i)) (aP p p.length) (fl.take p.length)=0:=zrp fun x hx=>by
  obtain⟨j,_,rfl⟩:=zxr hx
  simp;omega
 have b1:sIf (fun x=>decide (x.f=2+2*i)) (aS p (ofK p 1 p.length)) ((fl.drop p.length).take (ofK p 1 p.length).length)=0:=zrp fun x hx=>by
  unfold aS at hx
  obtain⟨j,_,rfl⟩:=wD.1 hx
  simp;omega
 have b2:sIf (fun x=>decide (x.t=2+2*i)) (aS p (ofK p 1 p.length)) ((fl.drop p.length).take (ofK p 1 p.length).length)=0:=zrp fun x hx=>by
  unfold aS at hx
  obtain⟨j,hj,rfl⟩:=wD.1 hx
  have h2:=(zdj.1 hj).2
  simp only[decide_eq_false_iff_not]
  intro e
  have:j=i:=by omega
  rw[this,hk]at h2;cases h2
 have c1:sIf (fun x=>decide (x.f=2+2*i)) (aO p (ofK p 3 p.length)) (((fl.drop p.length).drop (ofK p 1 p.length).length).take (ofK p 3 p.length).length)=0:=zrp fun x hx=>by
  unfold aO at hx
  obtain⟨j,_,rfl⟩:=wD.1 hx
  simp;omega
 have c2:sIf (fun x=>decide (x.t=2+2*i)) (aO p (ofK p 3 p.length)) (((fl.drop p.length).drop (ofK p 1 p.length).length).take (ofK p 3 p.length).length)=0:=zrp fun x hx=>by
  unfold aO at hx
  obtain⟨j,_,rfl⟩:=wD.1 hx
  simp;omega
 have d1:sIf (fun x=>decide (x.f=2+2*i)) (aR r) (rds p r fl)=0:=zrp fun x hx=>by
  unfold aR at hx
  obtain⟨y,_,rfl⟩:=wD.1 hx
  simp;omega
 have d2:sIf (fun x=>decide (x.t=2+2*i)) (aR r) (rds p r fl)=sRd (fun x=>decide (x.t=i)) r (rds p r fl):=z0r fun x hx=>by
  obtain⟨j,hj,rfl⟩:=zpu hx
  have:=h.rf j hj
  by_cases e:(rdt r j).t=(i:Int)
  . rw[decide_eq_true e];simp;omega
  . rw[decide_eq_false e];simp;omega
 rw[a1,a2,b1,b2,c1,c2,d1,d2]at hz
 omega
end Go.Fl
