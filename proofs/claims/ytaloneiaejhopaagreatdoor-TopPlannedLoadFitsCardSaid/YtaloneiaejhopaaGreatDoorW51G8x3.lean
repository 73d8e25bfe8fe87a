/-
  Ways through a network (plain Lean): walks, what they take from a flow, cycles. No condition; no program.
-/
import Derived.Test.YtaloneiaejhopaaGreatDoorW51G7x3
set_option linter.all false
open List renaming length_append->wB,mem_cons->wC,getD_eq_getElem?_getD->wD,getElem?_eq_some_iff->wE,getElem?_eq_getElem->wF,nodup_cons->wG,length_map->wH,cons_append->wJ,mem_append->wK,getElem?_append_right->wM,mem_of_getElem?->wN,getElem_of_mem->wO,mem_singleton->wP,not_mem_nil->wQ,length_set->wR,map_cons->wS,mem_map->wT
open Int renaming le_refl->wU,sub_zero->wW
open Nat renaming exists_eq_add_of_le->wX,le_refl->wY,lt_or_ge->wZ,not_lt_zero->w0,add_sub_cancel_left->w3
namespace Go.Fl
def wlk (a:List Ar):Nat->List Nat->Nat->Prop
 | u,[],v=>u=v
 | u,i::w,v=>i<a.length/\(art a i).f=u/\wlk a (art a i).t w v
def frm (a:List Ar)(w:List Nat):List Nat:=w.map fun i=>(art a i).f
theorem nI {a:List Ar}{v:Nat}{w':List Nat}:∀{w:List Nat} {u:Nat},wlk a u (w++w') v↔∃x,wlk a u w x/\wlk a x w' v
 | [],u=>⟨fun h=>⟨u,rfl,h⟩,fun⟨x,h1,h2⟩=>by cases h1;exact h2⟩
 | i::w,u=>by simp only[wJ,wlk,nI];exact⟨fun⟨h1,h2,x,h3,h4⟩=>⟨x,⟨h1,h2,h3⟩,h4⟩,fun⟨x,⟨h1,h2,h3⟩,h4⟩=>⟨h1,h2,x,h3,h4⟩⟩
theorem iT {a:List Ar}{v i:Nat}:∀{w:List Nat} {u:Nat},wlk a u w v->i∈w->i<a.length
 | j::w,u,h,hi=>by
   rcases wC.1 hi with rfl|hi
   . exact h.1
   . exact iT h.2.2 hi
theorem Hl {a:List Ar}{u v i:Nat}{w:List Nat}(h:wlk a u w v)(hi:i<a.length)(hf:(art a i).f=v):wlk a u (w++[i]) (art a i).t:=nI.2 ⟨v,h,hi,hf,rfl⟩
theorem jo {a:List Ar}:∀{w:List Nat},(frm a w).Nodup->w.Nodup
 | [],_=>List.nodup_nil
 | i::w,h=>by rw[frm,wS,wG]at h;exact wG.2 ⟨fun hm=>h.1 (wT.2 ⟨i,hm,rfl⟩),jo h.2⟩
theorem yI {a:List Ar}{m:Int}{v x:Nat}:∀{w:List Nat} {u:Nat} {fl:List Int},fl.length=a.length->(∀i,i<a.length->(art a i).f≠(art a i).t)->wlk a u w v ->
  giv a (sbw m w fl) x a.length=giv a fl x a.length-(if u=x then m else 0)+(if v=x then m else 0)
 | [],u,fl,_,_,h=>by cases h;rw[sbw];omega
 | i::w,u,fl,hl,hn,h=>by
   obtain⟨h1,rfl,h3⟩:=h;have ne:=hn i h1;rw[sbw,yI (by rw[wR];exact hl) hn h3,yH (by omega),if_pos h1];by_cases e1:(art a i).f=x
   . rw[if_pos e1,if_pos e1,if_neg (by omega),if_neg (by omega)];omega
   . rw[if_neg e1,if_neg e1];by_cases e2:(art a i).t=x
     . rw[if_pos e2,if_pos e2];omega
     . rw[if_neg e2,if_neg e2];omega
structure RI (g:Nt)(fl:List Int)(left:Int):Prop where
 fb:FB g fl
 gv:∀v,giv g.a fl v g.a.length=(if v=0 then left else 0)-(if v=1 then left else 0)
theorem KS {g:Nt}{fl:List Int}(h:FB g fl){w:List Nat}(hn:w.Nodup)(hl:∀i∈w,i<g.a.length){m:Int}(h0:0<=m)(hm:∀i∈w,m<=nth fl i):FB g (sbw m w fl) where
 l:=by rw[jA];exact h.l
 b i hi:=by
   have:=h.b i hi;rw[og m hn (fun j hj=>by rw[h.l];exact hl j hj)];by_cases e:i∈w
   . rw[if_pos e];have:=hm i e;omega
   . rw[if_neg e];omega
theorem yf {B m:Int}(hm:1<=m):∀{w:List Nat} {fl:List Int},w.Nodup->(∀i∈w,i<fl.length)->(∀i∈w,m<=nth fl i/\nth fl i<=B)->msr B (sbw m w fl)+w.length<=msr B fl
 | [],fl,_,_,_=>by simp[sbw]
 | i::w,fl,hn,hl,h=>by
   rw[wG]at hn;have h1:=h i (by simp);have:=ye (B:=B) (hl i (by simp)) (show 0<=nth fl i-m by omega) (by omega) (by omega);have:=yf (B:=B) hm hn.2 (fl:=fl.set i (nth fl i-m)) (fun j hj=>by rw[wR];exact hl j (by simp[hj])) (fun j hj=>by
    have hne:j≠i:=fun e=>hn.1 (by rw[<-e];exact hj)
    rw[bZ (hl i (by simp)),if_neg hne];exact h j (by simp[hj]))
   rw[sbw,List.length_cons];omega
theorem J0 {a:List Ar}{fl:List Int}{v:Nat}(h0:∀i,0<=nth fl i)(hn:∀i,i<a.length->(art a i).f≠(art a i).t):∀{m:Nat},m<=a.length->(∀i,i<m->(art a i).f=v->nth fl i=0) ->
  giv a fl v m<=0/\∀i,i<m->(art a i).t=v->giv a fl v m<=-nth fl i
 | 0,_,_=>⟨wU _,fun i h=>absurd h (w0 i)⟩
 | m+1,hm,h=>by
   obtain⟨i1,i2⟩:=J0 h0 hn (m:=m) (by omega) fun i hi=>h i (by omega)
   have hmm:=h0 m;have e1:(if(art a m).f=v then nth fl m else 0)=0:=by
    by_cases e:(art a m).f=v
    . rw[if_pos e];exact h m (by omega) e
    . rw[if_neg e]
   rw[giv,e1];refine⟨by split<;>omega,fun i hi e=> ?_⟩;by_cases e2:i=m
   . subst e2;rw[if_pos e];omega
   . have:=i2 i (by omega) e;split<;>omega
theorem sI {g:Nt}{fl:List Int}(h:FB g fl)(i:Nat):0<=nth fl i:=by
 by_cases hi:i<g.a.length
 . exact(h.b i hi).1
 . unfold nth;rw[wD,List.getElem?_eq_none (by rw[h.l];omega)];exact wU _
theorem Nf {g:Nt}{fl:List Int}{left:Int}(h:RI g fl left)(hl:0<left)(hn:∀i,i<g.a.length->(art g.a i).f≠(art g.a i).t){w:List Nat}{at_:Nat}(hw:wlk g.a 0 w at_)(hp:∀i∈w,0<nth fl i)(h1:at_≠1):∃i,i<g.a.length/\(art g.a i).f=at_/\0<nth fl i:=by
 apply Classical.byContradiction;intro hc;have hz:∀i,i<g.a.length->(art g.a i).f=at_->nth fl i=0:=fun i hi e=>by
  have:=sI h.fb i;by_cases hp:0<nth fl i
  . exact absurd ⟨i,hi,e,hp⟩ hc
  . omega
 obtain⟨i1,i2⟩:=J0 (sI h.fb) hn (wY _) hz;have hg:=h.gv at_;rw[if_neg h1]at hg;rcases List.eq_nil_or_concat w with rfl|⟨w',i,rfl⟩
 . cases hw;rw[if_pos rfl]at hg;omega
 . rw[List.concat_eq_append]at hw hp;obtain⟨x,_,h3,h4,h5⟩:=nI.1 hw;have hpi:=hp i (by simp);have:=i2 i h3 h5;by_cases e:at_=0
   . rw[if_pos e]at hg;omega
   . rw[if_neg e]at hg;omega
def Cls (a:List Ar)(A:Nat->Bool):Prop:=∀i,i<a.length->A (art a i).f=true->A (art a i).t=true
theorem xy {a:List Ar}{A:Nat->Bool}(hA:Cls a A){v:Nat}:∀{w:List Nat} {u:Nat},wlk a u w v->A u=true->A v=true
 | [],u,h,hu=>by cases h;exact hu
 | i::w,u,h,hu=>by obtain⟨h1,rfl,h3⟩:=h;exact xy hA h3 (hA i h1 hu)
theorem Ov {a:List Ar}{A:Nat->Bool}(hA:Cls a A){u i:Nat}{w:List Nat}(h:wlk a u w u)(hi:i∈w)(hf:A (art a i).f=false):A (art a i).t=false:=by
 obtain⟨w1,w2,rfl⟩:=List.append_of_mem hi;obtain⟨x,h1,h2,rfl,h4⟩:=nI.1 h
 cases ht:A (art a i).t with
 | false=>rfl
 | true =>have:=xy hA h1 (xy hA h4 ht);rw[hf]at this;cases this
theorem Lk {a:List Ar}{fl:List Int}{A:Nat->Bool}(hA:Cls a A)(h0:∀i,0<=nth fl i):∀{m:Nat},m<=a.length->crs A a fl m<=0/\∀i,i<m->A (art a i).f=false->A (art a i).t=true->crs A a fl m<=-nth fl i
 | 0,_=>⟨wU _,fun i h=>absurd h (w0 i)⟩
 | m+1,hm=>by
   obtain⟨i1,i2⟩:=Lk hA h0 (m:=m) (by omega);have hmm:=h0 m;have hc:=hA m (by omega);rw[crs];refine⟨?_,fun i hi e1 e2=> ?_⟩
   . cases x1:A (art a m).f with
     | false=>rw[if_neg (by simp)];split<;>omega
     | true=>rw[hc x1];simp;omega
   . by_cases e:i=m
     . subst e;rw[e1,e2];simp;omega
     . have:=i2 i (by omega) e1 e2
       cases x1:A (art a m).f with
       | false=>rw[if_neg (by simp)];split<;>omega
       | true=>rw[hc x1];simp;omega
theorem Ol {g:Nt}{fl:List Int}(h:RI g fl 0){A:Nat->Bool}(hA:Cls g.a A)(hb:∀i,i<g.a.length->(art g.a i).f<g.n/\(art g.a i).t<g.n){i:Nat}(hi:i<g.a.length)(hf:A (art g.a i).f=false)(ht:A (art g.a i).t=true):nth fl i=0:=by
 have e:=yW A (a:=g.a) (fl:=fl) (n:=g.n) (m:=g.a.length) hb;have e2:sN (fun v=>if A v=true then giv g.a fl v g.a.length else 0) g.n=0:=by refine Eq.trans (dA (G:=fun _=>0) fun v _=> ?_) (uM _);rw[h.gv v];split<;>simp
 obtain⟨_,h2⟩:=Lk hA (sI h.fb) (wY g.a.length);have:=h2 i hi hf ht;have:=sI h.fb i;omega
def rD (i:Nat):List (List Nat)->List Int->Int
 | w::ws,x::xs=>(if i∈w then x else 0)+rD i ws xs
 | _,_=>0
theorem u6 (i:Nat)(w:List Nat)(x:Int):∀{ws:List (List Nat)} {xs:List Int},ws.length=xs.length->rD i (ws++[w]) (xs++[x])=rD i ws xs+if i∈w then x else 0
 | [],[],_=>by simp[rD]
 | _::ws,_::xs,h=>by rw[wJ,wJ,rD,rD,u6 i w x (by simpa using h)];omega
 | [],_::_,h=>by simp at h
 | _::_,[],h=>by simp at h
structure WS (g:Nt)(fl:List Int)(tot:Int)(ws:List (List Nat))(num rest:List Int)(left:Int):Prop where
 ri:RI g rest left
 ln:ws.length=num.length
 ways:∀w∈ws,wlk g.a 0 w 1/\(frm g.a w).Nodup
 pos:∀x∈num,1<=x/\x<=1073741824
 len:(num.length:Int)+left<=tot
 l0:0<=left
 dec:∀A,Cls g.a A->∀i,i<g.a.length->A (art g.a i).f=false->A (art g.a i).t=true->nth rest i+rD i ws num=nth fl i
theorem q9 {fl:List Int}{w:List Nat}(h0:0<w.length)(hp:∀i∈w,0<nth fl i):1<=lew fl w (nth fl (w.headD 0))/\(∀i∈w,lew fl w (nth fl (w.headD 0))<=nth fl i)/\∃i∈w,lew fl w (nth fl (w.headD 0))=nth fl i:=by
 have hh:w.headD 0∈w:=by cases w with|nil=>simp at h0|cons a l=>simp
 obtain⟨_,h2⟩:=Jn fl w (nth fl (w.headD 0));have h3:∃i∈w,lew fl w (nth fl (w.headD 0))=nth fl i:=by
  rcases yj fl w (nth fl (w.headD 0))with e|h
  . exact⟨_,hh,e⟩
  . exact h
 obtain⟨i,hi,e⟩:=h3;have:=hp i hi;exact⟨by omega,h2,i,hi,e⟩
section
variable {g :Nt} {fl rest:List Int} {tot left:Int} {ws:List (List Nat)} {num:List Int}
theorem Qb (hn:∀i,i<g.a.length->(art g.a i).f≠(art g.a i).t)(h:WS g fl tot ws num rest left){u:Nat}{c:List Nat}(hc:wlk g.a u c u)(h0:0<c.length)(hnd:c.Nodup)(hp:∀i∈c,0<nth rest i) :
  WS g fl tot ws num (sbw (lew rest c (nth rest (c.headD 0))) c rest) left:=by
 obtain⟨m1,m2,_⟩:=q9 h0 hp;have hlt:∀i∈c,i<g.a.length:=fun i hi=>iT hc hi
 exact{
  ri:=⟨KS h.ri.fb hnd hlt (by omega) m2,fun v=>by rw[yI h.ri.fb.l hn hc,h.ri.gv v];omega⟩
  ln:=h.ln,ways:=h.ways,pos:=h.pos,len:=h.len,l0:=h.l0
  dec:=fun A hA i hi e1 e2=>by
   rw[og _ hnd (fun j hj=>by rw[h.ri.fb.l];exact hlt j hj),if_neg,wW]
   . exact h.dec A hA i hi e1 e2
   . intro hm;have:=Ov hA hc hm e1;rw[e2]at this;cases this}
theorem Qa (hn:∀i,i<g.a.length->(art g.a i).f≠(art g.a i).t)(hcp:∀i,i<g.a.length->(art g.a i).c<=1073741824)(h:WS g fl tot ws num rest left){c:List Nat}(hc:wlk g.a 0 c 1)(h0:0<c.length)(hnd:(frm g.a c).Nodup)(hp:∀i∈c,0<nth rest i)
  (hle:lew rest c (nth rest (c.headD 0))<=left):WS g fl tot (ws++[c]) (num++[lew rest c (nth rest (c.headD 0))]) (sbw (lew rest c (nth rest (c.headD 0))) c rest) (left-lew rest c (nth rest (c.headD 0))):=by
 obtain⟨m1,m2,i0,hi0,e0⟩:=q9 h0 hp;have hlt:∀i∈c,i<g.a.length:=fun i hi=>iT hc hi
 have hnd':=jo hnd;have hb0:=h.ri.fb.b i0 (hlt i0 hi0);have hc0:=hcp i0 (hlt i0 hi0);have hlen:=h.len;generalize lew rest c (nth rest (c.headD 0))=m at *
 exact{
  ri:=⟨KS h.ri.fb hnd' hlt (by omega) m2,fun v=>by
   rw[yI h.ri.fb.l hn hc,h.ri.gv v];by_cases e:v=0
   . subst e;simp
   . rw[if_neg e,if_neg (show ¬0=v from fun x=>e x.symm),if_neg e];by_cases e1:v=1
     . subst e1;simp;omega
     . rw[if_neg e1,if_neg (show ¬1=v from fun x=>e1 x.symm),if_neg e1];omega⟩
  ln:=by simp[h.ln]
  ways:=fun w hw=>by
   rcases wK.1 hw with hw|hw
   . exact h.ways w hw
   . rw[wP]at hw;subst hw;exact⟨hc,hnd⟩
  pos:=fun x hx=>by
   rcases wK.1 hx with hx|hx
   . exact h.pos x hx
   . rw[wP]at hx;subst hx;omega
  len:=by rw[wB,List.length_singleton];omega
  l0:=by omega
  dec:=fun A hA i hi e1 e2=>by
   rw[og _ hnd' (fun j hj=>by rw[h.ri.fb.l];exact hlt j hj),u6 i c m h.ln,<-h.dec A hA i hi e1 e2];omega}
theorem Qd (h:RI g rest left)(hs:∀i,i<g.a.length->(art g.a i).t≠0)(hb:∀i,i<g.a.length->(art g.a i).f<g.n/\(art g.a i).t<g.n)(h0:0<g.n){c:List Nat}(hc:wlk g.a 0 c 1){i:Nat}(hi:c.head? =some i):nth rest i<=left:=by
 obtain⟨w,rfl⟩:∃w,c=i::w:=by cases c with|nil=>cases hi|cons a l=>simp at hi;subst hi;exact⟨l,rfl⟩
 obtain⟨h1,h2,_⟩:=hc;have key:∀m,m<=g.a.length->(∀j,j<m->(art g.a j).f=0->nth rest j<=giv g.a rest 0 m)/\0<=giv g.a rest 0 m:=by
  intro m
  induction m with
  | zero=>exact fun _=>⟨fun j h=>absurd h (w0 j),wU _⟩
  | succ m ih =>
    intro hm;obtain⟨i1,i2⟩:=ih (by omega);have hmm:=sI h.fb m;rw[giv,if_neg (hs m (by omega))];refine⟨fun j hj e=> ?_,by split<;>omega⟩;by_cases e2:j=m
    . subst e2;rw[if_pos e];omega
    . have:=i1 j (by omega) e;split<;>omega
 have:=(key _ (wY _)).1 i h1 h2;rw[h.gv 0]at this;simpa using this
end
abbrev nSi (p:List Sp):Nat:=(ofK p 1 p.length).length
abbrev nOi (p:List Sp):Nat:=(ofK p 3 p.length).length
abbrev rbP (p:List Sp):Nat:=p.length+nSi p+nOi p
abbrev plc (p:List Sp)(w:List Nat):List Nat:=w.filter fun x=> !decide (p.length<=x)
theorem BC {p:List Sp}{r:List Rd}{k i:Nat}(h:(ofK p 3 p.length)[k]? =some i):art (aJ p r) (p.length+nSi p+k)=⟨3+2*i,1,(spt p i).cp,0⟩:=by
 have hk:=(wE.1 h).1;have l1:(aS p (ofK p 1 p.length)).length=nSi p:=by unfold aS;rw[wH]
 have l2:(aO p (ofK p 3 p.length)).length=nOi p:=by unfold aO;rw[wH]
 have hk:k<nOi p:=hk;unfold aJ;rw[BB (by rw[wB,wB,cM,l1,l2];omega),mh (by rw[wB,cM,l1];omega),wB,cM,l1,w3];unfold aO;rw[zg h]
theorem P3 {p:List Sp}{r:List Rd}{k:Nat}(h:k<r.length):art (aJ p r) (rbP p+k)=⟨3+2*(rdt r k).f.toNat,2+2*(rdt r k).t.toNat,(rdt r k).c,(rdt r k).k⟩:=by
 have e:(aP p p.length++aS p (ofK p 1 p.length)++aO p (ofK p 3 p.length)).length=rbP p:=by rw[wB,wB,cM];unfold aS aO;rw[wH,wH]
 unfold aJ;rw[mh (by rw[e];omega),e,w3];unfold aR;have hx:r[k]? =some (rdt r k):=by unfold rdt;rw[wD,wF h];rfl
 rw[zg hx]
theorem gh {p:List Sp}{r:List Rd}{i:Nat}(hi:i<(aJ p r).length) :
  (i<p.length/\art (aJ p r) i=⟨2+2*i,3+2*i,(spt p i).cp,0⟩) \/
  (∃k s,(ofK p 1 p.length)[k]? =some s/\i=p.length+k/\art (aJ p r) i=⟨0,2+2*s,(spt p s).cp,0⟩) \/
  (∃k o,(ofK p 3 p.length)[k]? =some o/\i=p.length+nSi p+k/\art (aJ p r) i=⟨3+2*o,1,(spt p o).cp,0⟩) \/
  (∃k,k<r.length/\i=rbP p+k/\art (aJ p r) i=⟨3+2*(rdt r k).f.toNat,2+2*(rdt r k).t.toNat,(rdt r k).c,(rdt r k).k⟩):=by
 have hl:=bU p r;have hb:rbP p=p.length+nSi p+nOi p:=rfl;rcases wZ i p.length with h1|h1
 . exact .inl ⟨h1,lL h1⟩
 rcases wZ i (p.length+nSi p)with h2|h2
 . obtain⟨k,rfl⟩:=wX h1;have e:=wF (show k<nSi p by omega);exact .inr (.inl ⟨k,_,e,rfl,jt e⟩)
 rcases wZ i (rbP p)with h3|h3
 . obtain⟨k,rfl⟩:=wX h2;have e:=wF (show k<nOi p by omega);exact .inr (.inr (.inl ⟨k,_,e,rfl,BC e⟩))
 . obtain⟨k,rfl⟩:=wX h3;have e:k<r.length:=by have hl:(aJ p r).length=p.length+nSi p+nOi p+r.length:=hl;have:rbP p=p.length+nSi p+nOi p:=rfl;omega
   exact .inr (.inr (.inr ⟨k,e,rfl,P3 e⟩))
structure WE (p:List Sp)(r:List Rd)(w:List Nat)(b o ρ:Nat):Prop where
 l:ρ<r.length
 f:(rdt r ρ).f.toNat=b
 t:(rdt r ρ).t.toNat=o
 kd:(spt p o).kd=3
 kb:(spt p b).kd≠3
 mr:rbP p+ρ∈w
 mo:∃k,(ofK p 3 p.length)[k]? =some o/\p.length+nSi p+k∈w
 ur:∀σ,σ<r.length->rbP p+σ∈w->(spt p (rdt r σ).t.toNat).kd=3->σ=ρ
 uo:∀k x,(ofK p 3 p.length)[k]? =some x->p.length+nSi p+k∈w->x=o
theorem olt {p:List Sp}{k o:Nat}(h:(ofK p 3 p.length)[k]? =some o):k<nOi p/\o<p.length/\(spt p o).kd=3 :=
 ⟨(wE.1 h).1,cZ.1 (wN h)⟩
theorem slt {p:List Sp}{k o:Nat}(h:(ofK p 1 p.length)[k]? =some o):k<nSi p/\o<p.length/\(spt p o).kd=1 :=
 ⟨(wE.1 h).1,cZ.1 (wN h)⟩
theorem Pi {p:List Sp}{x:Nat}{w:List Nat}(h:x<p.length):plc p (x::w)=x::plc p w:=by unfold plc;rw[List.filter_cons_of_pos];simp;omega
theorem IG {p:List Sp}{x:Nat}{w:List Nat}(h:p.length<=x):plc p (x::w)=plc p w:=by unfold plc;rw[List.filter_cons_of_neg];simp;omega
section
variable {p :List Sp} {r:List Rd} (h:POk p r)
include h
theorem UB {w:List Nat}(hw:wlk (aJ p r) 1 w 1):w=[]:=by
 cases w with
 | nil=>rfl
 | cons i w =>obtain⟨h1,h2,_⟩:=hw;rcases gh h1 with ⟨_,e⟩|⟨k,s,_,_,e⟩|⟨k,o,_,_,e⟩|⟨k,_,_,e⟩<;>(rw[e]at h2;simp only at h2;omega)
theorem Hn {w:List Nat}{t:Nat}(hw:wlk (aJ p r) (2+2*t) w 1):t<p.length/\∃v,w=t::v/\wlk (aJ p r) (3+2*t) v 1:=by
 cases w with
 | nil=>have:2+2*t=1:=hw;omega
 | cons i w =>
   obtain⟨h1,h2,h3⟩:=hw;rcases gh h1 with ⟨hi,e⟩|⟨k,s,_,_,e⟩|⟨k,o,_,_,e⟩|⟨k,_,_,e⟩<;>(rw[e]at h2 h3;simp only at h2 h3)
   . have:i=t:=by omega
     subst this;exact⟨hi,w,rfl,h3⟩
   all_goals omega
theorem zJ :∀{m:Nat} {w:List Nat} {b:Nat},w.length<=m->b<p.length->wlk (aJ p r) (3+2*b) w 1 ->
  ((spt p b).kd=3/\∃k,(ofK p 3 p.length)[k]? =some b/\w=[p.length+nSi p+k])\/((spt p b).kd≠3/\∃pre b' o ρ,b::plc p w=pre++[b',o]/\WE p r w b' o ρ)
 | m,[],b,_,_,hw=>by have:3+2*b=1:=hw;omega
 | 0,i::w,b,hm,_,_=>by simp at hm
 | m+1,i::w,b,hm,hb,hw=>by
   obtain⟨h1,h2,h3⟩:=hw;rcases gh h1 with ⟨_,e⟩|⟨k,s,_,_,e⟩|⟨k,o,ho,hi,e⟩|⟨ρ,hρ,hi,e⟩<;>(rw[e]at h2 h3;simp only at h2 h3)
   . omega
   . omega
   . have:o=b:=by omega
     subst this;obtain rfl:=UB h h3;exact .inl ⟨(olt ho).2.2,k,ho,by rw[hi]⟩
   . have hf:(rdt r ρ).f.toNat=b:=by omega
     have hkb:=(h.rk ρ hρ).1;rw[hf]at hkb;obtain⟨ht,v,rfl,h4⟩:=Hn h h3;have hmm:v.length<=m:=by simp at hm;omega
     subst hi;refine .inr ⟨hkb,?_⟩;have pe:plc p ((rbP p+ρ)::(rdt r ρ).t.toNat::v)=(rdt r ρ).t.toNat::plc p v:=by rw[IG (by unfold rbP;omega),Pi ht]
     rcases zJ hmm ht h4 with ⟨hk,k,ho,rfl⟩|⟨hk,pre,b',o,ρ',he,hw'⟩
     . have hkl:=(olt ho).1;refine⟨[],b,_,ρ,by rw[pe,IG (by omega)];rfl,hρ,hf,rfl,hk,hkb,by simp,⟨k,ho,by simp⟩,fun σ hσ hm hs=> ?_,fun k' x hx hm=> ?_⟩
       . simp only[wC,wQ,or_false]at hm;unfold rbP at hm;omega
       . have:=(olt hx).1;have hl:=olt ho;simp only[wC,wQ,or_false]at hm;have hx':=olt hx;unfold rbP at hm;have:k'=k:=by omega
         subst this;rw[ho]at hx;exact(Option.some.inj hx).symm
     . refine⟨b::pre,b',o,ρ',by rw[pe,he];rfl,hw'.l,hw'.f,hw'.t,hw'.kd,hw'.kb,by simp[hw'.mr],?_,fun σ hσ hm hs=> ?_,fun k' x hx hm=> ?_⟩
       . obtain⟨k,h5,h6⟩:=hw'.mo;exact⟨k,h5,by simp[h6]⟩
       . rcases wC.1 hm with e1|hm
         . have:σ=ρ:=by omega
           subst this;exact absurd hs hk
         rcases wC.1 hm with e1|hm
         . unfold rbP at e1;omega
         . exact hw'.ur σ hσ hm hs
       . have:=olt hx;rcases wC.1 hm with e1|hm
         . unfold rbP at e1;omega
         rcases wC.1 hm with e1|hm
         . omega
         . exact hw'.uo k' x hx hm
structure WB (p:List Sp)(r:List Rd)(w:List Nat)(s k b o ρ:Nat):Prop where
 hs:(ofK p 1 p.length)[k]? =some s
 h:w.headD 0=p.length+k
 ms:p.length+k∈w
 p0:(plc p w)[0]? =some s
 p1:(plc p w)[(plc p w).length-1]? =some o
 p2:(plc p w)[(plc p w).length-2]? =some b
 l2:2<=(plc p w).length
 we:WE p r w b o ρ
 us:∀i∈w,(art (aJ p r) i).f=0->i=p.length+k
theorem Mb {w:List Nat}(hw:wlk (aJ p r) 0 w 1)(hn:(frm (aJ p r) w).Nodup):∃s k b o ρ,WB p r w s k b o ρ:=by
 cases w with
 | nil=>have:(0:Nat)=1:=hw;omega
 | cons i w =>
   obtain⟨h1,h2,h3⟩:=hw;rw[frm,wS,wG]at hn;rcases gh h1 with ⟨_,e⟩|⟨k,s,hs,hi,e⟩|⟨k,o,_,_,e⟩|⟨k,_,_,e⟩<;>(rw[e]at h2 h3;simp only at h2 h3)
   . omega
   . subst hi;obtain⟨ht,v,rfl,h4⟩:=Hn h h3;have hk1:=(slt hs).2.2;have hkn:=(slt hs).1;have pe:plc p ((p.length+k)::s::v)=s::plc p v:=by rw[IG (by omega),Pi ht]
     rcases zJ h (wY _) ht h4 with ⟨hk,_⟩|⟨hk,pre,b,o,ρ,he,hw'⟩
     . omega
     . refine⟨s,k,b,o,ρ,hs,rfl,by simp,by rw[pe];rfl,?_,?_,?_,⟨hw'.l,hw'.f,hw'.t,hw'.kd,hw'.kb,by simp[hw'.mr],?_,fun σ hσ hm hx=> ?_,fun k' x hx hm=> ?_⟩,fun j hj hf=> ?_⟩
       . rw[pe,he,wB];rw[wM (by simp)];simp
       . rw[pe,he,wB];rw[wM (by simp)];simp
       . rw[pe,he,wB];simp
       . obtain⟨k,h5,h6⟩:=hw'.mo;exact⟨k,h5,by simp[h6]⟩
       . rcases wC.1 hm with e1|hm
         . unfold rbP at e1;omega
         rcases wC.1 hm with e1|hm
         . unfold rbP at e1;omega
         . exact hw'.ur σ hσ hm hx
       . have:=olt hx;rcases wC.1 hm with e1|hm
         . omega
         rcases wC.1 hm with e1|hm
         . omega
         . exact hw'.uo k' x hx hm
       . rcases wC.1 hj with e1|hj
         . exact e1
         . exact absurd (wT.2 ⟨j,hj,by rw[hf,e]⟩) hn.1
   . omega
   . omega
end
theorem rQ (F:Nat->Int)(a:Nat):∀b,sN F (a+b)=sN F a+sN (fun n=>F (a+n)) b
 | 0=>by simp[sN]
 | b+1=>by rw[<-Nat.add_assoc,sN,rQ F a b,sN];omega
theorem Ru {F:Nat->Int}{c:Int}(hc:c=0\/c=1):∀{n:Nat},(∀v,v<n->F v=c)->sN F n=if c=1 then(n:Int)else 0
 | 0,_=>by rw[sN];split<;>rfl
 | n+1,h=>by
   rw[sN,Ru hc fun v hv=>h v (by omega),h n (by omega)];rcases hc with rfl|rfl
   . rfl
   . rw[if_pos rfl,if_pos rfl];omega
theorem jB {F:Nat->Int}(h:∀v,0<=F v){a b:Nat}(hab:a<=b):0<=sN F a/\sN F a<=sN F b:=by
 have nn:∀(G:Nat->Int),(∀v,0<=G v)->∀n,0<=sN G n:=fun G hG n=>by
  induction n with
  | zero=>exact wU _
  | succ n ih=>have:=hG n;rw[sN];omega
 obtain⟨c,rfl⟩:=wX hab;rw[rQ];have:=nn _ (fun v=>h (a+v)) c;have:=nn F h a;omega
def isS (a:List Ar)(v:Nat)(w:List Nat):Bool:=(art a (w.headD 0)).t==v
def pick (a:List Ar)(v:Nat):List (List Nat)->List Int->Int->Option (List Nat)
 | w::ws,x::xs,k=>if isS a v w=true then(if k<x then some w else pick a v ws xs (k-x))else pick a v ws xs k
 | _,_,_=>none
def sW (Q:List Nat->Bool):List (List Nat)->List Int->Int
 | w::ws,x::xs=>(if Q w=true then x else 0)+sW Q ws xs
 | _,_=>0
def hvP (P:List Nat->Bool):Option (List Nat)->Int
 | some w=>if P w=true then 1 else 0
 | none=>0
theorem VH (P:List Nat->Bool)(o:Option (List Nat)):0<=hvP P o/\hvP P o<=1:=by
 cases o with
 | none=>exact⟨wU _,(by show(0:Int)<=1;decide)⟩
 | some w=>unfold hvP;dsimp only;split<;>exact⟨by decide,by decide⟩
theorem HG (Q:List Nat->Bool):∀{ws:List (List Nat)} {num:List Int},(∀x∈num,0<=x)->0<=sW Q ws num
 | [],_,_=>wU _
 | _::_,[],_=>wU _
 | w::ws,x::xs,h=>by
   have:=HG Q (ws:=ws) (num:=xs) fun y hy=>h y (by simp[hy])
   have:=h x (by simp);rw[sW];split<;>omega
theorem rP {Q R:List Nat->Bool}:∀{ws:List (List Nat)} {num:List Int},(∀w∈ws,Q w=R w)->sW Q ws num=sW R ws num
 | [],_,_=>rfl
 | _::_,[],_=>rfl
 | w::ws,x::xs,h=>by rw[sW,sW,rP fun y hy=>h y (by simp[hy]),h w (by simp)]
theorem DE (i:Nat):∀(ws:List (List Nat)) (num:List Int),rD i ws num=sW (fun w=>decide (i∈w)) ws num
 | [],_=>rfl
 | _::_,[]=>rfl
 | w::ws,x::xs=>by rw[rD,sW,DE i ws xs];simp
theorem sv {a:List Ar}{v:Nat}{w:List Nat}:∀{ws:List (List Nat)} {num:List Int} {k:Int},pick a v ws num k=some w->w∈ws/\isS a v w=true
 | [],_,_,h=>by simp[pick]at h
 | _::_,[],_,h=>by simp[pick]at h
 | y::ws,x::xs,k,h=>by
   rw[pick]at h;split at h
   . rename_i e;split at h
     . cases h;exact⟨by simp,e⟩
     . have:=sv h;exact⟨by simp[this.1],this.2⟩
   . have:=sv h;exact⟨by simp[this.1],this.2⟩
theorem px {a:List Ar}{v:Nat}:∀{ws:List (List Nat)} {num:List Int} {k:Int},0<=k->ws.length=num.length->pick a v ws num k=none->sW (isS a v) ws num<=k
 | [],[],k,hk,_,_=>hk
 | [],_::_,_,_,h,_=>by simp at h
 | _::_,[],_,_,h,_=>by simp at h
 | y::ws,x::xs,k,hk,hl,h=>by
   rw[pick]at h;rw[sW];split at h
   . rename_i e;split at h
     . cases h
     . have:=px (by omega) (by simpa using hl) h;rw[if_pos e];omega
   . rename_i e;have:=px hk (by simpa using hl) h;rw[if_neg e];omega
theorem kT {a:List Ar}{v:Nat}(P:List Nat->Bool):∀{ws:List (List Nat)} {num:List Int} {N:Nat},ws.length=num.length->(∀x∈num,0<=x)->sW (isS a v) ws num<=N ->
  sN (fun n=>hvP P (pick a v ws num (n:Int))) N=sW (fun w=>isS a v w&&P w) ws num
 | [],[],N,_,_,_=>(uM N)
 | [],_::_,_,h,_,_=>by simp at h
 | _::_,[],_,h,_,_=>by simp at h
 | y::ws,x::xs,N,hl,hx,hN=>by
   have hx0:=hx x (by simp);have hxs:∀z∈xs,0<=z:=fun z hz=>hx z (by simp[hz])
   have hl':ws.length=xs.length:=by simpa using hl
   have hnn:=HG (isS a v) (ws:=ws) hxs;rw[sW]at hN;rw[sW]
   cases e:isS a v y with
   | false =>rw[if_neg (by rw[e];decide)]at hN;rw[dA (G:=fun n=>hvP P (pick a v ws xs (n:Int))) fun n _=>by rw[pick,if_neg (by rw[e];decide)],kT P hl' hxs (by omega)];simp
   | true =>
     rw[if_pos e]at hN;obtain⟨m,rfl⟩:=Int.eq_ofNat_of_zero_le hx0;obtain⟨c,rfl⟩:=wX (show m<=N by omega);rw[rQ,dA (n:=c) (G:=fun n=>hvP P (pick a v ws xs (n:Int))) fun n _=>by
      rw[pick,if_pos e,if_neg (by omega),show((m+n:Nat):Int)-(m:Int)=n by omega],kT P (ws:=ws) (num:=xs) hl' hxs (by omega)]
     rw[Ru (c:=if P y=true then 1 else 0) (by split<;>simp) fun n hn=>by rw[pick,if_pos e,if_pos (by omega)];rfl];cases P y<;>simp
theorem IX {a:List Ar}{v:Nat}{ws:List (List Nat)}{num:List Int}{N:Nat}(hl:ws.length=num.length)(hx:∀x∈num,0<=x)(hN:sW (isS a v) ws num<=N) :
  sN (fun n=>if(pick a v ws num (n:Int)).isNone=true then 1 else 0) N=N-sW (isS a v) ws num:=by
 have h1:=kT (a:=a) (v:=v) (fun _=>true) hl hx hN;have h2:=kI (fun n=>hvP (fun _=>true) (pick a v ws num (n:Int))) (fun n=>if(pick a v ws num (n:Int)).isNone=true then 1 else 0) N;rw[Ru (c:=1) (.inr rfl) fun n _=>by cases pick a v ws num (n:Int)<;>rfl,if_pos rfl,h1,rP (R:=isS a v) fun w _=>by simp]at h2;omega
section
variable {p :List Sp} {r:List Rd} {ws:List (List Nat)} {num:List Int}
def gP (p:List Sp)(r:List Rd)(ws:List (List Nat))(num:List Int)(P:List Nat->Bool)(j n:Nat):Int:=hvP P (pick (aJ p r) (2+2*j) ws num (n:Int))
def nP (p:List Sp)(r:List Rd)(ws:List (List Nat))(num:List Int)(j n:Nat):Int:=if(pick (aJ p r) (2+2*j) ws num (n:Int)).isNone=true then 1 else 0
def aL (p:List Sp)(G:Nat->Nat->Int)(k:Nat):Int:=sN (fun j=>if(spt p j).kd=1 then sN (G j) (spt p j).cp.toNat else 0) k
def cS (p:List Sp)(G:Nat->Nat->Int)(k n:Nat):Int:=aL p G k+sN (G k) n
theorem OF {G:Nat->Nat->Int}{k n:Nat}:cS p G k (n+1)=cS p G k n+G k n:=by unfold cS;rw[sN];omega
theorem T5 {G:Nat->Nat->Int}{k:Nat}(hk:(spt p k).kd=1):cS p G k (spt p k).cp.toNat=cS p G (k+1) 0:=by unfold cS aL;simp only[sN,if_pos hk];omega
theorem OE {G:Nat->Nat->Int}{k:Nat}(hk:(spt p k).kd≠1):cS p G k 0=cS p G (k+1) 0:=by unfold cS aL;simp only[sN,if_neg hk];omega
theorem T6 {G:Nat->Nat->Int}(hG:∀j n,0<=G j n){k n:Nat}(hk:k<p.length)(hkd:(spt p k).kd=1)(hn:n<(spt p k).cp.toNat):0<=cS p G k n/\cS p G k n+G k n<=aL p G p.length:=by
 have h0:∀j,0<=(fun j=>if(spt p j).kd=1 then sN (G j) (spt p j).cp.toNat else 0) j:=fun j=>by
  dsimp only;split
  . exact(jB (hG j) (wY _)).1
  . exact wU _
 have h1:=(jB h0 (show k+1<=p.length from hk)).2;have h2:=(jB (hG k) (show n+1<=(spt p k).cp.toNat from hn)).2;have h3:=(jB h0 (wY k)).1;have h4:=(jB (hG k) (wY n)).1;rw[sN,if_pos hkd]at h1;rw[sN]at h2;unfold cS aL;omega
theorem HJ {F:Nat->Int}{k n:Nat}(hk:k<n)(h:∀v,v<n->v≠k->F v=0):sN F n=F k:=by
 have:=rS (fun _=>true) k (F k) n;simp only[if_true,hk,and_self]at this;rw[<-this];refine dA fun v hv=> ?_
 by_cases e:k=v
 . subst e;rw[if_pos rfl]
 . rw[if_neg e];exact h v hv fun e'=>e e'.symm
theorem swap (P:List Nat->Bool):∀{ws:List (List Nat)} {num:List Int},(∀w∈ws,∃s,s<p.length/\(spt p s).kd=1/\(art (aJ p r) (w.headD 0)).t=2+2*s) ->
  sN (fun j=>if(spt p j).kd=1 then sW (fun w=>isS (aJ p r) (2+2*j) w&&P w) ws num else 0) p.length=sW P ws num
 | [],num,_=>by rw[dA (G:=fun _=>0) fun j _=>by simp[sW],uM];simp[sW]
 | _::_,[],_=>by rw[dA (G:=fun _=>0) fun j _=>by simp[sW],uM];simp[sW]
 | w::ws,x::xs,h=>by
   have ih:=swap P (ws:=ws) (num:=xs) fun y hy=>h y (by simp[hy])
   obtain⟨s,hs,hk,ht⟩:=h w (by simp);have e:=HJ (F:=fun j=>if(spt p j).kd=1 then(if(isS (aJ p r) (2+2*j) w&&P w)=true then x else 0)else 0) (k:=s) hs fun v _ hne=>by
    have:isS (aJ p r) (2+2*v) w=false:=by unfold isS;rw[ht,beq_eq_false_iff_ne];omega
    simp only[this];simp
   have e2:isS (aJ p r) (2+2*s) w=true:=by unfold isS;rw[ht];simp
   simp only[if_pos hk,e2,Bool.true_and]at e;rw[sW,<-ih,<-e,<-kI];refine dA fun j _=> ?_
   split
   . rw[sW]
   . rfl
end
def lo (p:List Sp)(w:List Nat):Nat:=(plc p w).getD ((plc p w).length-1) 0
def bo (p:List Sp)(w:List Nat):Nat:=(plc p w).getD ((plc p w).length-2) 0
theorem DH {p:List Sp}{r:List Rd}{w:List Nat}{s k b o ρ:Nat}(h:WB p r w s k b o ρ):lo p w=o/\bo p w=b:=by unfold lo bo;rw[wD,wD,h.p1,h.p2];exact⟨rfl,rfl⟩
theorem Ed {p:List Sp}{kd:Int}{i j x:Nat}(hi:(ofK p kd p.length)[i]? =some x)(hj:(ofK p kd p.length)[j]? =some x):i=j:=by obtain⟨h1,e1⟩:=wE.1 hi;obtain⟨h2,e2⟩:=wE.1 hj;exact(List.getElem_inj (lW p kd p.length)).1 (e1.trans e2.symm)
def PJ (p:List Sp)(g o:Int)(w:List Nat):Bool:=decide ((spt p (bo p w)).kd=2/\(spt p (bo p w)).nu=g/\(spt p (lo p w)).nu=o)
def QR (p:List Sp)(r:List Rd)(g o:Int)(ρ:Nat):Bool:=decide ((spt p (rdt r ρ).f.toNat).kd=2/\(spt p (rdt r ρ).t.toNat).kd=3/\(spt p (rdt r ρ).f.toNat).nu=g/\(spt p (rdt r ρ).t.toNat).nu=o)
section
variable {p :List Sp} {r:List Rd} (h:POk p r)
include h
theorem rz {i:Nat}(hi:i<(aJ p r).length):(art (aJ p r) i).t≠0:=by rcases gh hi with ⟨_,e⟩|⟨k,s,_,_,e⟩|⟨k,o,_,_,e⟩|⟨k,_,_,e⟩<;>(rw[e];simp only;omega)
theorem V2 :Cls (aJ p r) (fun v=>decide (v≠0)):=fun i hi _=>by have:=rz h hi;simpa using this
theorem Yc :Cls (aJ p r) (fun v=>decide (v=1)):=fun i hi hf=>by
 have hf:(art (aJ p r) i).f=1:=by simpa using hf
 rcases gh hi with ⟨_,e⟩|⟨k,s,_,_,e⟩|⟨k,o,_,_,e⟩|⟨k,_,_,e⟩<;>(rw[e]at hf;simp only at hf;omega)
theorem Yb {t:Nat}(hk:(spt p t).kd=3):Cls (aJ p r) (fun v=>decide (v=1\/v=2+2*t\/v=3+2*t)):=fun i hi hf=>by
 simp only[decide_eq_true_eq]at hf ⊢;rcases gh hi with ⟨_,e⟩|⟨k,s,_,_,e⟩|⟨k,o,_,_,e⟩|⟨k,hkr,_,e⟩<;>(rw[e]at hf ⊢;simp only at hf ⊢)
 . omega
 . omega
 . simp
 . have:=(h.rk k hkr).1;have e:(rdt r k).f.toNat≠t:=fun e=>this (by rw[e];exact hk)
   omega
section
variable {fl num rest:List Int} {ws:List (List Nat)} {tot:Int} (hw:WS (net p r) fl tot ws num rest 0)
include hw
theorem w_ln :ws.length=num.length/\∀x∈num,0<=x:=⟨hw.ln,fun x hx=>by have:=hw.pos x hx;omega⟩
theorem DL {A:Nat->Bool}(hA:Cls (aJ p r) A){i:Nat}(hi:i<(aJ p r).length)(hf:A (art (aJ p r) i).f=false)(ht:A (art (aJ p r) i).t=true):sW (fun w=>decide (i∈w)) ws num=nth fl i:=by have hg:=Cg h;have h1:=hw.dec A hA i hi hf ht;have h2:=Ol hw.ri hA (fun i hi=>⟨hg.f i hi,hg.t i hi⟩) hi hf ht;rw[DE]at h1;omega
theorem vj {w:List Nat}(hm:w∈ws):∃s k b o ρ,WB p r w s k b o ρ:=Mb h (hw.ways w hm).1 (hw.ways w hm).2
theorem w_S {k s:Nat}(hk:(ofK p 1 p.length)[k]? =some s):sW (fun w=>decide (p.length+k∈w)) ws num=nth fl (p.length+k):=by have hl:(aJ p r).length=p.length+nSi p+nOi p+r.length:=bU p r;have:=(slt hk).1;exact DL h hw (V2 h) (by omega) (by rw[jt hk];rfl) (by rw[jt hk];simp)
theorem w_O {k o:Nat}(hk:(ofK p 3 p.length)[k]? =some o):sW (fun w=>decide (lo p w=o)) ws num=nth fl (p.length+nSi p+k):=by
 have hl:(aJ p r).length=p.length+nSi p+nOi p+r.length:=bU p r;have:=(olt hk).1;rw[<-DL h hw (Yc h) (i:=p.length+nSi p+k) (by omega) (by rw[BC hk];simp;omega) (by rw[BC hk];simp)];refine rP fun w hm=> ?_
 obtain⟨s,k',b,o',ρ,hb⟩:=vj h hw hm;rw[decide_eq_decide,(DH hb).1];constructor
 . rintro rfl;obtain⟨k2,h2,h3⟩:=hb.we.mo;rw[Ed hk h2];exact h3
 . intro hm;exact(hb.we.uo k o hk hm).symm
theorem BK (hr:RI (net p r) fl tot){s:Nat}(hs:s<p.length)(hk:(spt p s).kd=1):sW (isS (aJ p r) (2+2*s)) ws num=nth fl s/\nth fl s<=(spt p s).cp:=by
 obtain⟨k,hkl,hke⟩:=wO (cZ.2 ⟨hs,hk⟩:s∈ofK p 1 p.length);have hk':(ofK p 1 p.length)[k]? =some s:=by rw[wF hkl,hke]
 have e:=DU h hr.fb.l hs hk' (by have:=hr.gv (2+2*s);rw[if_neg (by omega),if_neg (by omega)]at this;exact this);have hl:(aJ p r).length=p.length+nSi p+nOi p+r.length:=bU p r;have hfb:=hr.fb.b (p.length+k) (by show p.length+k<(aJ p r).length;have:k<nSi p:=hkl;omega);rw[show(net p r).a=aJ p r from rfl,jt hk',e]at hfb;have hfb:=hfb.2;refine⟨?_,hfb⟩;rw[<-e,<-w_S h hw hk'];refine rP fun w hm=> ?_
 obtain⟨s',k',b,o',ρ,hb⟩:=vj h hw hm;have e1:isS (aJ p r) (2+2*s) w=decide (s'=s):=by
  unfold isS;rw[hb.h,jt hb.hs];by_cases e:s'=s
  . subst e;simp
  . rw[decide_eq_false e,beq_eq_false_iff_ne];simp only;omega
 rw[e1,decide_eq_decide];constructor
 . rintro rfl;rw[Ed hk' hb.hs];exact hb.ms
 . intro hm;have:=hb.us _ hm (by rw[jt hk']);have:k=k':=by omega
   subst this;have:=hb.hs;rw[hk']at this;exact(Option.some.inj this).symm
theorem w_R {g o:Int}:sW (PJ p g o) ws num=sN (fun ρ=>if QR p r g o ρ=true then nth (rds p r fl) ρ else 0) r.length:=by
 have hl:(aJ p r).length=p.length+nSi p+nOi p+r.length:=bU p r;have e1:sN (fun ρ=>if QR p r g o ρ=true then nth (rds p r fl) ρ else 0) r.length=sN (fun ρ=>if QR p r g o ρ=true then sW (fun w=>decide (rbP p+ρ∈w)) ws num else 0) r.length:=by
  refine dA fun ρ hρ=> ?_
  by_cases e:QR p r g o ρ=true
  . rw[if_pos e,if_pos e];have hk:(spt p (rdt r ρ).t.toNat).kd=3:=(of_decide_eq_true e).2.1;have hne:(rdt r ρ).f.toNat≠(rdt r ρ).t.toNat:=by have:=h.rf ρ hρ;omega
    have ha:=P3 (p:=p) hρ;rw[DL h hw (Yb h hk) (by have:rbP p=p.length+nSi p+nOi p:=rfl;omega) (by rw[ha];simp;omega) (by rw[ha];simp)];unfold rds nth;rw[wD,wD,List.getElem?_drop]
  . rw[if_neg e,if_neg e]
 rw[e1];have key:∀(ws:List (List Nat)) (num:List Int),(∀w∈ws,∃s k b o ρ,WB p r w s k b o ρ)->sN (fun ρ=>if QR p r g o ρ=true then sW (fun w=>decide (rbP p+ρ∈w)) ws num else 0) r.length=sW (PJ p g o) ws num:=by
  intro ws
  induction ws with
  | nil=>intro num _;rw[dA (G:=fun _=>0) fun j _=>by simp[sW],uM];rfl
  | cons w ws ih =>
    intro num hh
    cases num with
    | nil=>rw[dA (G:=fun _=>0) fun j _=>by simp[sW],uM];rfl
    | cons x xs =>
      obtain⟨s,k,b,o',ρ,hb⟩:=hh w (by simp);have ih:=ih xs fun y hy=>hh y (by simp[hy])
      have e:=HJ (F:=fun j=>if QR p r g o j=true then(if rbP p+j∈w then x else 0)else 0) (k:=ρ) hb.we.l fun v hv hne=>by
       by_cases e:QR p r g o v=true
       . rw[if_pos e,if_neg];intro hm;exact hne (hb.we.ur v hv hm (of_decide_eq_true e).2.1)
       . rw[if_neg e]
      have e2:QR p r g o ρ=PJ p g o w:=by unfold QR PJ;rw[(DH hb).1,(DH hb).2,hb.we.f,hb.we.t,decide_eq_decide];exact⟨fun h=>⟨h.1,h.2.2⟩,fun h=>⟨h.1,hb.we.kd,h.2⟩⟩
      simp only[e2,if_pos hb.we.mr]at e;rw[sW,<-ih,<-e,<-kI];refine dA fun j _=> ?_
      split
      . rw[sW];simp
      . rfl
 exact(key ws num fun w hm=>vj h hw hm).symm
theorem O6 (hr:RI (net p r) fl tot):sW (fun _=>true) ws num=tot:=by
 have hg:giv (aJ p r) fl 0 (aJ p r).length=tot:=by have:=hr.gv 0;rw[if_pos rfl,if_neg (by decide),wW]at this;exact this
 have e0:∀m,m<=(aJ p r).length->giv (aJ p r) fl 0 m=sN (fun i=>if(art (aJ p r) i).f=0 then sW (fun w=>decide (i∈w)) ws num else 0) m:=by
  intro m
  induction m with
  | zero=>intro _;rfl
  | succ m ih =>
    intro hm;rw[giv,sN,ih (by omega),if_neg (rz h (show m<(aJ p r).length by omega))];by_cases e:(art (aJ p r) m).f=0
    . rw[if_pos e,if_pos e,DL h hw (V2 h) (by omega) (by rw[e];rfl) (by have:=rz h (show m<(aJ p r).length by omega);simpa using this)];omega
    . rw[if_neg e,if_neg e];omega
 rw[<-hg,e0 _ (wY _)];have key:∀(ws:List (List Nat)) (num:List Int),(∀w∈ws,∃s k b o ρ,WB p r w s k b o ρ)->sW (fun _=>true) ws num=sN (fun i=>if(art (aJ p r) i).f=0 then sW (fun w=>decide (i∈w)) ws num else 0) (aJ p r).length:=by
  intro ws
  induction ws with
  | nil=>intro num _;rw[dA (G:=fun _=>0) fun j _=>by simp[sW],uM];rfl
  | cons w ws ih =>
    intro num hh
    cases num with
    | nil=>rw[dA (G:=fun _=>0) fun j _=>by simp[sW],uM];rfl
    | cons x xs =>
      obtain⟨s,k,b,o',ρ,hb⟩:=hh w (by simp);have ih:=ih xs fun y hy=>hh y (by simp[hy])
      have hl:(aJ p r).length=p.length+nSi p+nOi p+r.length:=bU p r;have hk:=(slt hb.hs).1;have e:=HJ (F:=fun j=>if(art (aJ p r) j).f=0 then(if j∈w then x else 0)else 0) (n:=(aJ p r).length) (k:=p.length+k) (by omega) fun v hv hne=>by
       by_cases e:(art (aJ p r) v).f=0
       . rw[if_pos e,if_neg];intro hm;exact hne (hb.us v hm e)
       . rw[if_neg e]
      simp only[jt hb.hs,if_true,if_pos hb.ms]at e;rw[sW,if_pos rfl,ih];refine Eq.trans (congrArg (· +_) e.symm) ?_;rw[<-kI];refine dA fun j _=> ?_
      split
      . rw[sW];simp
      . rfl
 exact key ws num fun w hm=>vj h hw hm
theorem O7 (hr:RI (net p r) fl tot)(P:List Nat->Bool):aL p (gP p r ws num P) p.length=sW P ws num:=by
 obtain⟨hl,hx⟩:=w_ln h hw;rw[<-swap (r:=r) P fun w hm=>by
  obtain⟨s,k,b,o',ρ,hb⟩:=vj h hw hm;exact⟨s,(slt hb.hs).2.1,(slt hb.hs).2.2,by rw[hb.h,jt hb.hs]⟩]
 unfold aL;refine dA fun j hj=> ?_
 by_cases e:(spt p j).kd=1
 . rw[if_pos e,if_pos e];have hs:=BK h hw hr hj e;have hc:=h.cp j hj;exact kT P hl hx (by omega)
 . rw[if_neg e,if_neg e]
theorem UC (hr:RI (net p r) fl tot):aL p (nP p r ws num) p.length=sN (fun j=>if(spt p j).kd=1 then(spt p j).cp else 0) p.length-tot:=by
 obtain⟨hl,hx⟩:=w_ln h hw;have h1:=O7 h hw hr (fun _=>true);rw[O6 h hw hr]at h1;rw[<-h1];have h2:=kI (fun j=>if(spt p j).kd=1 then sN (gP p r ws num (fun _=>true) j) (spt p j).cp.toNat else 0) (fun j=>if(spt p j).kd=1 then sN (nP p r ws num j) (spt p j).cp.toNat else 0) p.length;rw[dA (G:=fun j=>if(spt p j).kd=1 then(spt p j).cp else 0) fun j hj=> ?_]at h2
 . unfold aL;omega
 . by_cases e:(spt p j).kd=1
   . rw[if_pos e,if_pos e,if_pos e];have hs:=BK h hw hr hj e;have hc:=h.cp j hj;unfold gP nP;rw[IX hl hx (by omega),kT (fun _=>true) hl hx (by omega),rP (R:=isS (aJ p r) (2+2*j)) fun w _=>by simp];omega
   . rw[if_neg e,if_neg e,if_neg e];rfl
end
end
def sG (g o:Int):List Al->Int
 | []=>0
 | a::l=>(if sm g o a=true then a.n else 0)+sG g o l
theorem HK (g' o':Int):∀(l:List Al) (g o v:Int),sG g' o' (iE l g o v)=sG g' o' l+if g=g'/\o=o' then v else 0
 | [],g,o,v=>by simp[iE,fnd,sG,sm]
 | a::l,g,o,v=>by
   cases h:sm g o a with
   | true =>
     obtain⟨e1,e2⟩:=hZ.1 h;have e3:sm g' o' a=decide (g=g'/\o=o'):=by unfold sm;rw[e1,e2];simp
     have e4:sm g' o' ⟨g,o,a.n+v⟩=decide (g=g'/\o=o'):=by unfold sm;simp
     rw[iL h,sG,sG,e3,e4];by_cases e:g=g'/\o=o'
     . simp[e];omega
     . simp[e]
   | false=>rw[iM h,sG,sG,HK g' o' l g o v];omega
theorem LG (p:List Sp)(r:List Rd)(x:List Int)(g o:Int):∀m,sG g o (alo p r x m)=sN (fun ρ=>if QR p r g o ρ=true then nth x ρ else 0) m
 | 0=>rfl
 | m+1=>by
   rw[alo,sN,<-LG p r x g o m];split
   . rename_i e;rw[HK];have:QR p r g o m=decide ((spt p (rdt r m).f.toNat).nu=g/\(spt p (rdt r m).t.toNat).nu=o):=by unfold QR;rw[decide_eq_decide];exact⟨fun h=>h.2.2,fun h=>⟨e.1,e.2,h⟩⟩
     rw[this];simp
   . rename_i e;have:QR p r g o m=false:=decide_eq_false fun h=>e ⟨h.1,h.2.1⟩
     rw[this];simp
theorem UK {g o:Int}:∀{l:List Al},(∀b∈l,sm g o b=false)->sG g o l=0
 | [],_=>rfl
 | b::l,h=>by rw[sG,h b (by simp),UK fun c hc=>h c (by simp[hc])];rfl
theorem HL :∀{l:List Al} {a:Al},ND l->a∈l->sG a.g a.o l=a.n
 | b::l,a,h,ha=>by
   rw[sG];rcases wC.1 ha with rfl|ha
   . rw[if_pos (hZ.2 ⟨rfl,rfl⟩),UK h.2.1];omega
   . have e:sm a.g a.o b=false:=by
      rw[DT];exact h.2.1 a ha
     rw[e,HL h.2.2 ha];simp
theorem Pe {g o:Int}:∀{l:List Al},sG g o l≠0->∃a∈l,a.g=g/\a.o=o
 | [],h=>absurd rfl h
 | a::l,h=>by
   by_cases e:sm g o a=true
   . exact⟨a,by simp,hZ.1 e⟩
   . rw[sG,if_neg e,Int.zero_add]at h;obtain⟨b,hb,e⟩:=Pe h;exact⟨b,by simp[hb],e⟩
theorem zj {p:List Sp}{r:List Rd}(h:POk p r)(x:List Int):∀{m:Nat} {a:Al},m<=r.length->a∈alo p r x m->∃i k,i<p.length/\k<p.length/\(spt p i).kd=2/\(spt p i).nu=a.g/\(spt p k).kd=3/\(spt p k).nu=a.o
 | 0,a,_,ha=>by simp[alo]at ha
 | m+1,a,hm,ha=>by
   rw[alo]at ha;split at ha
   . rename_i e;rcases sq ha with ⟨e1,e2⟩|ha
     . have:=h.rf m (by omega);exact⟨_,_,by omega,by omega,e.1,e1.symm,e.2,e2.symm⟩
     . exact zj h x (by omega) ha
   . exact zj h x (by omega) ha
abbrev Df2 (a b:Al):Prop:=sm a.g a.o b=false
theorem IY :∀{l:List Al},ND l->l.Pairwise Df2
 | [],_=>List.Pairwise.nil
 | a::l,h=>List.Pairwise.cons (fun b hb=>h.2.1 b hb) (IY h.2.2)
def fo (p:List Sp)(al:List Al)(k:Nat):List Al:=al.filter fun a=>decide (a.o=(spt p k).nu)&&decide (a.n≠0)
def wlt (p:List Sp)(al:List Al):Nat->List Al
 | 0=>[]
 | k+1=>if(spt p k).kd=3/\(spt p k).cp≠0 then wlt p al k++fo p al k else wlt p al k
theorem J4 {p:List Sp}{al:List Al}{k:Nat}{a:Al}:a∈fo p al k↔a∈al/\a.o=(spt p k).nu/\a.n≠0:=by unfold fo;rw[List.mem_filter,Bool.and_eq_true,decide_eq_true_eq,decide_eq_true_eq]
theorem qP {p:List Sp}{al:List Al}{a:Al}:∀{m:Nat},a∈wlt p al m↔∃k,k<m/\(spt p k).kd=3/\(spt p k).cp≠0/\a∈al/\a.o=(spt p k).nu/\a.n≠0
 | 0=>by simp[wlt]
 | m+1=>by
   have ih:=qP (p:=p) (al:=al) (a:=a) (m:=m);rw[wlt];split
   . rename_i e;rw[wK,ih,J4];constructor
     . rintro (⟨k,h1,h2⟩|h)
       . exact⟨k,by omega,h2⟩
       . exact⟨m,by omega,e.1,e.2,h⟩
     . rintro ⟨k,h1,h2⟩;by_cases e:k=m
       . subst e;exact .inr h2.2.2
       . exact .inl ⟨k,by omega,h2⟩
   . rename_i e;rw[ih];constructor
     . rintro ⟨k,h1,h2⟩;exact⟨k,by omega,h2⟩
     . rintro ⟨k,h1,h2⟩;by_cases e':k=m
       . subst e';exact absurd ⟨h2.1,h2.2.1⟩ e
       . exact⟨k,by omega,h2⟩
theorem BG {p:List Sp}{r:List Rd}(h:POk p r){al:List Al}(hal:ND al):∀{m:Nat},m<=p.length->(wlt p al m).Pairwise Df2
 | 0,_=>List.Pairwise.nil
 | m+1,hm=>by
   rw[wlt];split
   . rename_i e;rw[List.pairwise_append];refine⟨BG h hal (by omega),(IY hal).sublist List.filter_sublist,fun a ha b hb=> ?_⟩;obtain⟨k,h1,h2,_,_,h3,_⟩:=qP.1 ha;have h4:=(J4.1 hb).2.1;have h5:=h.tw k m h1 (by omega);unfold Df2 sm;rw[Bool.and_eq_false_iff];right;refine decide_eq_false fun e2=>h5 ⟨by rw[h2,e.1],by rw[<-h3,<-h4,e2]⟩
   . exact BG h hal (by omega)
theorem UT {l:List Al}(h:l.Pairwise Df2){a:Al}(ha:a∈l):∃j,∃hj:j<l.length,l[j]=a/\∀i,(hi:i<l.length)->i≠j->sm a.g a.o l[i]=false:=by
 obtain⟨j,hj,e⟩:=wO ha;refine⟨j,hj,e,fun i hi hne=> ?_⟩;have hp:=List.pairwise_iff_getElem.1 h;rcases wZ i j with h1|h1
 . have:=hp i j hi hj h1;rw[e]at this;unfold Df2 at this;rw[DT];exact this
 . have:=hp j i hj hi (by omega);rw[e]at this;exact this
end Go.Fl
