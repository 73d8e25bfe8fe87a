/-
  Chapter 16: what all have at a level, and the greatest level. No condition.
-/
import Derived.Test.YthipjfnealbheaaGreatDoorW97G1x4
set_option linter.all false
open Nat renaming exists_eq_add_of_le'->wB,le_refl->wC,sub_self->wD
open List renaming getD_eq_getElem?_getD->wE,getElem?_eq_getElem->wF,length_replicate->wG,length_append->wH
namespace Go.Proofs.S97.Q
open Go Go.Ev Go.Proofs
variable {gl :Gl} {n:Nat}
def mn (a b:Int):Int:=if b<a then b else a
theorem mn_le (a b:Int):mn a b<=a/\mn a b<=b/\(mn a b=a\/mn a b=b):=by unfold mn;split<;>omega
def at1 (s:S2)(m:Int):Int:=mn (s.w*m) s.x
def allF (l:List S2)(m:Int):Nat->Int
 | 0=>0
 | i+1=>allF l m i+at1 (sat l i) m
abbrev MB :Int:=1099511627776
theorem z00 {s:S2}(h:SOk s){m:Int}(hm:0<=m/\m<=1099511627777):0<=s.w*m/\s.w*m<=1152921504607895552:=by
 obtain⟨⟨h1,h2⟩,_⟩:=h
 refine⟨Int.mul_nonneg (by omega) hm.1,?_⟩
 have:=Int.mul_le_mul h2 hm.2 hm.1 (by omega)
 omega
theorem zsf {s:S2}(h:SOk s){m:Int}(hm:0<=m/\m<=1099511627777):0<=at1 s m/\at1 s m<=s.x:=by
 have:=z00 h hm
 have:=h.x
 unfold at1 mn;split<;>omega
theorem z9s {l:List S2}(hv:VS l){m:Int}(hm:0<=m/\m<=1099511627777):∀{i:Nat},i<=l.length->0<=allF l m i/\allF l m i<=(i:Int)*1099511627776
 | 0,_=>⟨Int.le_refl _,by simp[allF]⟩
 | i+1,h=>by
   have h1:=z9s hv hm (show i<=l.length by omega)
   have h2:=zsf (hv.ok i (by omega)) hm
   have h3:=(hv.ok i (by omega)).x
   rw[allF];omega
theorem zuh {l:List S2}(hv:VS l){m:Int}(hm:0<=m/\m<=1099511627777){i:Nat}(hi:i<=l.length):0<=allF l m i/\allF l m i<=1099511627776000:=by
 have:=z9s hv hm hi
 have:=hv.n
 omega
theorem z8l {s:S2}(h:SOk s){m m':Int}(hm:m<=m'):at1 s m<=at1 s m':=by
 have:=Int.mul_le_mul_of_nonneg_left hm (show 0<=s.w by have:=h.w;omega)
 unfold at1 mn;split<;>split<;>omega
theorem zwj {l:List S2}(hv:VS l){m m':Int}(hm:m<=m'):∀{i:Nat},i<=l.length->allF l m i<=allF l m' i
 | 0,_=>Int.le_refl _
 | i+1,h=>by
   have h1:=zwj hv hm (show i<=l.length by omega)
   have h2:=z8l (hv.ok i (by omega)) hm
   rw[allF,allF];omega
theorem zwi {l:List S2}(hv:VS l):∀{i:Nat},i<=l.length->allF l 0 i=0
 | 0,_=>rfl
 | i+1,h=>by
   have h1:=zwi hv (show i<=l.length by omega)
   have h3:=(hv.ok i (by omega)).x
   rw[allF,h1,at1,Int.mul_zero,mn];split<;>omega
def L36 :MC:=match m98 with| .seq _ (.seq _ (.seq (.seq _ (.block _ (.loop _ b))) _))=>b|_=>.skip
def S36 (f:Bool)(m:Sh)(l:List S2)(q:Int)(i:Nat):St:=⟨[.set 10 (i64 i),.set 9 (i64 l.length),.set 8 (.lst f m (sh l)),.set 5 (i64 (allF l q i)),.set 1 (i64 q)],[]⟩
theorem z9t (h:1<=n){f:Bool}{m:Sh}{l:List S2}(hm:Mk l m sS)(hv:VS l){q:Int}(hq:0<=q/\q<=1099511627777):call gl tab n 98 [.lst f m (sh l),i64 q] []=some (i64 (allF l q l.length),[],[]):=by
 obtain⟨d,rfl⟩:=wB h
 have hn:=hv.n
 have hs:∀i,i<l.length->zba [.slot 1,.slot 5,.slot 8,.slot 9,.slot 10] (evC gl (call gl tab d) L36 (S36 f m l q i))=some (S36 f m l q (i+1)):=fun i hi=>by
  have hx:=qba hi
  obtain rfl:=hm.eq hi
  have h1:=z00 (hv.ok i hi) hq
  have h2:=zsf (hv.ok i hi) hq
  have h3:=zuh hv hq (show i<=l.length by omega)
  have h4:=(hv.ok i hi).x
  unfold at1 mn at h2
  simp(disch:=apply zq;omega) only[go_sem,simprocAttr,↓Nat.reduceEqDiff,xx,L36,m98,S36,zbv,hx,zi7,zo9,allF,at1,mn]
 simp only[L36,m98]at hs
 rw[zaf (fd:=fd98) rfl]
 simp(disch:=apply zq;omega) only[go_sem,simprocAttr,↓Nat.reduceEqDiff,xx,fd98,m98,zbv]
 rw[zaj (S36 f m l q) l.length (by unfold LF;omega)]
 . simp(disch:=apply zq;omega) only[go_sem,simprocAttr,↓Nat.reduceEqDiff,xx,S36,zbv]
 . simp(disch:=apply zq;omega) only[go_sem,simprocAttr,↓Nat.reduceEqDiff,xx,S36,zbv,allF]
 . exact hs
 . simp(disch:=apply zq;omega) only[go_sem,simprocAttr,↓Nat.reduceEqDiff,xx,S36,zbv]
structure Lv (l:List S2)(c m:Int):Prop where
 lo:0<=m
 hi:m<=1099511627776
 le:allF l m l.length<=c
 gt:m=1099511627776\/c<allF l (m+1) l.length
theorem z1e {l:List S2}(hv:VS l){c m m':Int}(h:Lv l c m)(h':Lv l c m'):m=m':=by
 have key:∀{m m':Int},Lv l c m->Lv l c m'->¬m<m':=fun{m m'} h h' hlt=>by
  have h1:=zwj hv (show m+1<=m' by omega) (wC _)
  have:=h'.le;have:=h'.hi
  rcases h.gt with h2|h2<;>omega
 have:=key h h'
 have:=key h' h
 omega
structure Bs (l:List S2)(c:Int)(a:Int×Int):Prop where
 lo:0<=a.1
 lt:a.1<a.2
 hi:a.2<=1099511627777
 le:allF l a.1 l.length<=c
 gt:a.2=1099511627777\/c<allF l a.2 l.length
theorem qil {l:List S2}{c:Int}{a:Int×Int}(h:Bs l c a)(he:¬1<a.2-a.1):Lv l c a.1:=by
 have h1:=h.lt
 have e:a.2=a.1+1:=by omega
 refine⟨h.lo,by have:=h.hi;omega,h.le,?_⟩
 rcases h.gt with h2|h2
 . exact .inl (by omega)
 . exact .inr (e▸h2)
def mid (a:Int×Int):Int:=a.1+(a.2-a.1)/2
def bsN (l:List S2)(c:Int)(a:Int×Int):Int×Int:=if allF l (mid a) l.length<=c then(mid a,a.2)else(a.1,mid a)
theorem qd9 {l:List S2}{c:Int}{a:Int×Int}(h:Bs l c a)(he:1<a.2-a.1):Bs l c (bsN l c a)/\((bsN l c a).2-(bsN l c a).1).toNat<(a.2-a.1).toNat:=by
 have h1:=h.lo;have h2:=h.hi
 have hm:mid a=a.1+(a.2-a.1)/2:=rfl
 unfold bsN
 split
 . rename_i hc
   exact⟨⟨by show 0<=mid a;omega,by show mid a<a.2;omega,h2,hc,h.gt⟩,by show(a.2-mid a).toNat<_;omega⟩
 . rename_i hc
   exact⟨⟨h1,by show a.1<mid a;omega,by show mid a<=_;omega,h.le,.inr (Int.not_le.1 hc)⟩,by show(mid a-a.1).toNat<_;omega⟩
theorem bs_0 {l:List S2}(hv:VS l){c:Int}(hc:0<=c):Bs l c (0,1099511627777):=⟨Int.le_refl _,by decide,Int.le_refl _,by rw[zwi hv (wC _)];exact hc,.inl rfl⟩
abbrev box (f:Bool)(m:Sh)(l:List S2)(c:Int):Hp:=[(100000,.fix .sc (.lst f m (sh l))),(100001,.fix .sc (i64 c))]
theorem z6r (h:2<=n){f:Bool}{m:Sh}{l:List S2}(hm:Mk l m sS)(hv:VS l){q c:Int}(hq:0<=q/\q<=1099511627777) :
  call gl tab n 112 [i64 q,.ptr 100000 [],.ptr 100001 []] (box f m l c)=some (.bool (decide (allF l q l.length<=c)),box f m l c,[]):=by
 obtain⟨d,rfl⟩:=wB h
 have c36:=@z9t gl (d+1) (by omega) f m l hm hv q hq
 rw[za5 (fd:=z7l) rfl]
 simp(disch:=apply zq;omega) only[go_sem,simprocAttr,↓Nat.reduceEqDiff,xx,z7l,m112,c36]
def L34 :MC:=match m111 with| .seq _ (.seq (.block _ (.loop _ b)) _)=>b|_=>.skip
def S34 (f:Bool)(m:Sh)(l:List S2)(c:Int)(a:Int×Int):St:=⟨[.set 2 (.fn 112 [.ptr 100000 [],.ptr 100001 []]),.set 1 (i64 a.2),.set 0 (i64 a.1)],[(100001,.fix .sc (i64 c)),(100000,.fix .sc (.lst f m (sh l)))]⟩
theorem quo2 {x:Int}(h:0<=x):Int.tdiv x 2=x/2:=Int.tdiv_eq_ediv_of_nonneg h
theorem z1p (h:4<=n){f:Bool}{m:Sh}{l:List S2}(hm:Mk l m sS)(hv:VS l){c:Int}(hc:0<=c/\c<=1099511627776):∃q,Lv l c q /\
  call gl tab n 111 [i64 0,i64 1099511627777,.fn 112 [.ptr 100000 [],.ptr 100001 []]] (box f m l c)=some (i64 q,box f m l c,[]):=by
 obtain⟨d,rfl⟩:=wB h
 obtain⟨a,hI,hg,hit⟩:=zi3 (f:=evC gl (call gl tab (d+3)) L34) (ks:=[.slot 0,.slot 1,.slot 2]) (S34 f m l c) (Bs l c) (fun a=>(a.2-a.1).toNat) (bsN l c) (fun a=>decide (1<a.2-a.1)) (a0:=(0,1099511627777)) (by unfold LF;simp) (bs_0 hv hc.1)
  (fun a hI hg=>by
    simp only[decide_eq_true_eq]at hg
    obtain⟨h1,h2⟩:=qd9 hI hg
    refine⟨?_,h1,h2⟩
    obtain⟨k1,k2,k3,_,_⟩:=hI
    have hq2:=quo2 (show 0<=a.2-a.1 by omega)
    have hmid:a.1+(a.2-a.1)/2=mid a:=rfl
    have c35:=@z6r gl (d+3) (by omega) f m l hm hv (mid a) c (by rw[<-hmid];omega)
    have hm1:0<=mid a/\mid a<=1099511627777:=by rw[<-hmid];omega
    by_cases hd:allF l (mid a) l.length<=c
    . rw[decide_eq_true hd]at c35
      have e:bsN l c a=(mid a,a.2):=if_pos hd
      rw[e]
      simp(disch:=apply zq;omega) only[go_sem,simprocAttr,↓Nat.reduceEqDiff,xx,L34,m111,S34,zam,hq2,hmid,c35]
    . rw[decide_eq_false hd]at c35
      have e:bsN l c a=(a.1,mid a):=if_neg hd
      rw[e]
      simp(disch:=apply zq;omega) only[go_sem,simprocAttr,↓Nat.reduceEqDiff,xx,L34,m111,S34,zam,hq2,hmid,c35])
  (fun a hI hg=>by
    simp only[decide_eq_false_iff_not]at hg
    obtain⟨k1,k2,k3,_,_⟩:=hI
    simp(disch:=apply zq;omega) only[go_sem,simprocAttr,↓Nat.reduceEqDiff,xx,L34,m111,S34])
 simp only[decide_eq_false_iff_not]at hg
 refine⟨a.1,qil hI hg,?_⟩
 obtain⟨k1,k2,k3,_,_⟩:=hI
 simp only[L34,m111]at hit
 rw[za5 (fd:=z7m) rfl]
 simp(disch:=apply zq;omega) only[go_sem,simprocAttr,↓Nat.reduceEqDiff,xx,z7m,m111]
 rw[hit _ (by simp(disch:=apply zq;omega) only[go_sem,simprocAttr,↓Nat.reduceEqDiff,xx,S34])]
 simp(disch:=apply zq;omega) only[go_sem,simprocAttr,↓Nat.reduceEqDiff,xx,S34]
end Go.Proofs.S97.Q
namespace Go.Proofs.S97.Q
open Go Go.Ev Go.Proofs
variable {gl :Gl} {n:Nat}
theorem z6b (h:6<=n){f:Bool}{m:Sh}{l:List S2}(hm:Mk l m sS)(hv:VS l){c:Int}(hc:0<=c/\c<=1099511627776){q:Int}(hq:Lv l c q):call gl tab n 97 [i64 c,.lst f m (sh l)] []=some (i64 q,[],[]):=by
 obtain⟨d,rfl⟩:=wB h
 obtain⟨q',hq',c34⟩:=@z1p gl (d+5) (by omega) f m l hm hv c hc
 obtain rfl:=z1e hv hq' hq
 rw[zaf (fd:=fd97) rfl]
 simp(disch:=apply zq;omega) only[go_sem,simprocAttr,↓Nat.reduceEqDiff,xx,fd97,m97,c34]
theorem z1f {l:List S2}(hv:VS l){c:Int}(hc:0<=c/\c<=1099511627776):∃q,Lv l c q:=by
 obtain⟨q,hq,_⟩:=@z1p glS 4 (by omega) false sS l (.inr rfl) hv c hc
 exact⟨q,hq⟩
def S14 (f:Bool)(m:Sh)(l:List S2)(c:Int)(a:Int×Int):St:=⟨[.set 6 (i64 a.2),.set 5 (i64 a.1),.set 1 (.lst f m (sh l)),.set 0 (i64 c)],[]⟩
def mor (s:S2)(m lf:Int):Int:=mn (mn lf s.w) (s.x-at1 s m)
def lef (l:List S2)(m c:Int):Nat->Int
 | 0=>c-allF l m l.length
 | i+1=>lef l m c i-mor (sat l i) m (lef l m c i)
def get1 (l:List S2)(m c:Int)(i:Nat):Int:=at1 (sat l i) m+mor (sat l i) m (lef l m c i)
def gets (l:List S2)(m c:Int):Nat->List Int
 | 0=>[]
 | i+1=>gets l m c i++[get1 l m c i]
theorem zch (l:List S2)(m c:Int):∀i,(gets l m c i).length=i
 | 0=>rfl
 | i+1=>by rw[gets,wH,zch l m c i];rfl
theorem z2z (l:List S2)(m c:Int):∀{i j:Nat},j<i->nat (gets l m c i) j=get1 l m c j
 | i+1,j,h=>by
   rw[gets,nat,wE]
   by_cases hj:j<i
   . rw[List.getElem?_append_left (by rw[zch];exact hj),<-wE];exact z2z l m c hj
   . have e:j=i:=by omega
     subst e
     rw[List.getElem?_append_right (by rw[zch];exact wC _),zch,wD];rfl
theorem z03 {s:S2}(h:SOk s){m lf:Int}(hm:0<=m/\m<=1099511627777)(hl:0<=lf):0<=mor s m lf/\mor s m lf<=lf/\mor s m lf<=s.w/\mor s m lf<=s.x-at1 s m:=by
 have h1:=zsf h hm
 have h2:=h.w
 unfold mor mn;repeat' split
 all_goals omega
theorem z1m {l:List S2}(hv:VS l){c m:Int}(h:Lv l c m):∀{i:Nat},i<=l.length->0<=lef l m c i/\lef l m c i<=c
 | 0,_=>by
   have h1:=h.le;have h2:=h.lo;have h3:=h.hi
   have:=zuh hv (show 0<=m/\m<=1099511627777 by omega) (wC _)
   rw[lef];omega
 | i+1,hi=>by
   have h1:=z1m hv h (show i<=l.length by omega)
   have:=z03 (hv.ok i (by omega)) (show 0<=m/\m<=1099511627777 by have:=h.lo;have:=h.hi;omega) h1.1
   rw[lef];omega
def buf (l:List S2)(m c:Int)(i:Nat):List Int:=gets l m c i++List.replicate (l.length-i) 0
theorem zy1 {l:List S2}{m c:Int}{i:Nat}(h:i<=l.length):(buf l m c i).length=l.length:=by rw[buf,wH,zch,wG];omega
theorem qd7 {l:List S2}{m c:Int}{i:Nat}(h:i<l.length):(buf l m c i).set i (get1 l m c i)=buf l m c (i+1):=by
 rw[buf,buf,gets,List.set_append_right _ _ (by rw[zch];exact wC _),zch,wD]
 obtain⟨k,hk⟩:∃k,l.length-i=k+1:=⟨l.length-i-1,by omega⟩
 rw[hk,show l.length-(i+1)=k by omega,List.replicate_succ,List.set_cons_zero,List.append_assoc];rfl
theorem qd8 (l:List S2)(m c:Int):buf l m c l.length=gets l m c l.length:=by rw[buf,wD];exact List.append_nil _
theorem ns_set (l:List Int)(i:Nat)(v:Int):(ns l).set i (i64 v)=ns (l.set i v):=by simp[ns]
theorem ns_rep (k:Nat):List.replicate k (AV.int .i64 0)=ns (List.replicate k 0):=by simp[ns]
def L16 :MC:=match m78 with| .seq _ (.seq _ (.seq _ (.seq _ (.seq (.seq _ (.block _ (.loop _ b))) _))))=>b|_=>.skip
def S97s (f:Bool)(k:Sh)(l:List S2)(m c:Int)(i:Nat):St :=
 ⟨[.set 25 (i64 i),.set 24 (i64 l.length),.set 23 (.lst f k (sh l)),.set 7 (.sl 22 [] 0 l.length),.set 6 (i64 (lef l m c i)),.set 5 (i64 m)],[(22,.grow .sc (ns (buf l m c i)))]⟩
theorem qdf (h:8<=n){f:Bool}{k:Sh}{l:List S2}(hm:Mk l k sS)(hv:VS l){c:Int}(hc:0<=c/\c<=1099511627776){m:Int}(hq:Lv l c m) :
  call gl tab n 78 [i64 c,.lst f k (sh l)] []=some (.sl 20000 [] 0 l.length,[],[.grow .sc (ns (gets l m c l.length))]):=by
 obtain⟨d,rfl⟩:=wB h
 have hn:=hv.n
 have h0:=hq.lo;have h00:=hq.hi
 have hmb:0<=m/\m<=1099511627777:=by omega
 have c13:=@z6b gl (d+7) (by omega) f k l hm hv c hc m hq
 have c36:=@z9t gl (d+7) (by omega) f k l hm hv m hmb
 have hab:=zuh hv hmb (wC _)
 have hs:∀i,i<l.length->zba [.slot 5,.slot 6,.slot 7,.slot 23,.slot 24,.slot 25,.key 22] (evC gl (call gl tab (d+7)) L16 (S97s f k l m c i))=some (S97s f k l m c (i+1)):=fun i hi=>by
  have hx:=qba hi
  obtain rfl:=hm.eq hi
  have h1:=z00 (hv.ok i hi) hmb
  have h2:=zsf (hv.ok i hi) hmb
  have h3:=z1m hv hq (show i<=l.length by omega)
  have h5:=z03 (hv.ok i hi) hmb h3.1
  have h4:=(hv.ok i hi).x
  have hb:=@zy1 l m c i (by omega)
  have hg:i<(buf l m c i).length:=by omega
  have hnx:=ns_at hg
  have hst:=@qd7 l m c i hi
  have e1:(if(sat l i).x<(sat l i).w*m then(sat l i).x else(sat l i).w*m)=at1 (sat l i) m:=rfl
  have e2:(if(sat l i).x-at1 (sat l i) m<(if(sat l i).w<lef l m c i then(sat l i).w else lef l m c i)then(sat l i).x-at1 (sat l i) m else(if(sat l i).w<lef l m c i then(sat l i).w else lef l m c i))=mor (sat l i) m (lef l m c i):=rfl
  have e3:at1 (sat l i) m+mor (sat l i) m (lef l m c i)=get1 l m c i:=rfl
  have e4:lef l m c i-mor (sat l i) m (lef l m c i)=lef l m c (i+1):=rfl
  simp(disch:=apply zq;omega) only[go_sem,simprocAttr,↓Nat.reduceEqDiff,xx,L16,m78,S97s,zbv,hx,zi7,zo9,gt_iff_lt,e1,e2,e3,e4,hb,ns_length,hnx,ns_set,hst]
 simp only[L16,m78]at hs
 have hlim:l.length<=LIM:=by unfold LIM;omega
 have hlim2:(l.length:Int)<=(LIM:Nat):=by unfold LIM;omega
 rw[zaf (fd:=fd78) rfl]
 simp(disch:=apply zq;omega) only[go_sem,simprocAttr,↓Nat.reduceEqDiff,xx,fd78,m78,zbv,c13,c36,hlim,hlim2]
 rw[zaj (S97s f k l m c) l.length (by unfold LF;omega)]
 . simp(disch:=apply zq;omega) only[go_sem,simprocAttr,↓Nat.reduceEqDiff,xx,S97s,zbv,qd8,ns_length,zch]
 . simp(disch:=apply zq;omega) only[go_sem,simprocAttr,↓Nat.reduceEqDiff,xx,S97s,zbv,lef,buf,gets,ns_rep,ns_length,wG,Nat.sub_zero]
 . exact hs
 . simp(disch:=apply zq;omega) only[go_sem,simprocAttr,↓Nat.reduceEqDiff,xx,S97s,zbv]
end Go.Proofs.S97.Q
namespace Go.Proofs.S97.Q
open Go Go.Ev Go.Proofs
variable {gl :Gl} {n:Nat}
def L26 :MC:=match m31 with| .seq _ (.seq _ (.seq (.seq _ (.block _ (.loop _ b))) _))=>b|_=>.skip
def S26 (f f':Bool)(k k':Sh)(a:List A3)(i:Nat):St:=⟨[.set 5 (i64 i),.set 1 (.lst f' k' (ac a)),.set 0 (.lst f k (ac a))],[]⟩
theorem z46 (h:1<=n){f f':Bool}{k k':Sh}{a:List A3}(hm:Mk a k sA)(hm':Mk a k' sA)(hl:a.length<2^60):call gl tab n 31 [.lst f k (ac a),.lst f' k' (ac a)] []=some (.bool true,[],[]):=by
 obtain⟨d,rfl⟩:=wB h
 have hs:∀i,i<a.length->zba [.slot 0,.slot 1,.slot 5] (evC gl (call gl tab d) L26 (S26 f f' k k' a i))=some (S26 f f' k k' a (i+1)):=fun i hi=>by
  have hx:=zej hi
  obtain rfl:=hm.eq hi
  obtain rfl:=hm'.eq hi
  simp(disch:=apply zq;omega) only[go_sem,simprocAttr,↓Nat.reduceEqDiff,xx,L26,m31,S26,zad,hx,eqAV,zml,beq_self_eq_true]
 simp only[L26,m31]at hs
 rw[zaf (fd:=fd31) rfl]
 simp(disch:=apply zq;omega) only[go_sem,simprocAttr,↓Nat.reduceEqDiff,xx,fd31,m31,zad]
 rw[zaj (S26 f f' k k' a) a.length (by unfold LF;omega)]
 . simp(disch:=apply zq;omega) only[go_sem,simprocAttr,↓Nat.reduceEqDiff,xx,S26,zad]
 . simp(disch:=apply zq;omega) only[go_sem,simprocAttr,↓Nat.reduceEqDiff,xx,S26,zad]
 . exact hs
 . simp(disch:=apply zq;omega) only[go_sem,simprocAttr,↓Nat.reduceEqDiff,xx,S26,zad]
end Go.Proofs.S97.Q
namespace Go.Proofs.S97.Q
open Go Go.Ev Go.Proofs
variable {gl :Gl} {n:Nat}
def shA (l:List A3):List S2:=l.map fun a=>⟨a.w,a.u⟩
def wnt (l:List A3)(k:Nat)(v:Int):List S2:=(shA l).set k ⟨(aat l k).w,mn 1099511627776 ((aat l k).u+v)⟩
theorem zds (l:List A3):(shA l).length=l.length:=by simp[shA]
theorem zfj (l:List A3)(k:Nat)(v:Int):(wnt l k v).length=l.length:=by simp[wnt,zds]
theorem zsu {l:List A3}{i:Nat}(h:i<l.length):sat (shA l) i=⟨(aat l i).w,(aat l i).u⟩:=by simp[sat,shA,aat,h]
theorem qbc {l:List A3}{k:Nat}{v:Int}{i:Nat}(h:i<l.length):sat (wnt l k v) i=⟨(aat l i).w,if i=k then mn 1099511627776 ((aat l k).u+v)else(aat l i).u⟩:=by
 unfold wnt sat
 rw[wE]
 by_cases e:i=k
 . subst e;rw[List.getElem?_set_self (by rw[zds];exact h),if_pos rfl];rfl
 . rw[List.getElem?_set_ne (by omega),if_neg e]
   have:=zsu h
   rw[sat,wE]at this
   exact this
theorem zih {l:List A3}(hv:VA l){k:Nat}{v:Int}(hvv:0<=v/\v<=1099511627776):VS (wnt l k v):=by
 refine⟨by rw[zfj];exact hv.n,fun i hi=> ?_⟩
 rw[zfj]at hi
 rw[qbc hi]
 have o:=hv.ok i hi
 refine⟨o.w,?_⟩
 have:=o.u
 simp only
 split
 . rename_i h;subst h
   have:=mn_le 1099511627776 ((aat l i).u+v)
   omega
 . exact this
theorem z4r {l:List S2}{i:Nat}(h:i<l.length):l.take (i+1)=l.take i++[sat l i]:=by
 rw[List.take_add_one,wF h];simp[sat,List.getD,wF h]
def S31 (l:List A3)(k:Nat)(q v:Int)(i:Nat):St :=
 ⟨[.set 8 (i64 i),.set 7 (.sl 5007 [] 0 i),.set 2 (i64 v),.set 1 (i64 q),.set 0 (.lst false sA (ac l))],[(5007,.grow sS (sh ((wnt l k v).take i)))]⟩
end Go.Proofs.S97.Q
namespace Go.Proofs.S97.Q
open Go Go.Ev Go.Proofs
variable {gl :Gl} {n:Nat}
def S43 (f:Bool)(m:Sh)(l:List A3)(q:Int)(i:Nat):St:=⟨[.set 5 (i64 i),.set 1 (i64 q),.set 0 (.lst f m (ac l))],[]⟩
theorem zv9 (h:1<=n){f:Bool}{l:List A3}(hl:l.length<=1000):call gl tab n 40 [.lst f sA (ac l)] []=some (.sl 20000 [] 0 l.length,[],[.grow sA (ac l)]):=by
 obtain⟨d,rfl⟩:=wB h
 rw[zei (fd:=fd40) rfl rfl]
 have h1:l.length<=LIM:=by unfold LIM;omega
 simp[zh1,zad,h1,Sh.beq,Sh.beqs]
end Go.Proofs.S97.Q
