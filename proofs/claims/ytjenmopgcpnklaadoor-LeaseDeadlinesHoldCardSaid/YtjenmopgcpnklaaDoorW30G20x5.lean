/-
  Chapter 30: a world of the authority and three sites, in plain terms. No condition.
-/
import Derived.Test.YtjenmopgcpnklaaDoorW30L4
set_option linter.unusedVariables false
set_option linter.unusedSimpArgs false
set_option linter.unusedSectionVars false
namespace Go.Proofs.S30.G
open Go Go.Ev Go.Proofs Go.Ck
open Go.Proofs.S30.H (GlK GlR)
structure Wd where
 t:Int
 m:Int
 l:List Gt
 h:Nat->Hd
 s:List Le
 b:List Int
 T:Int
structure SOk (w:Wd)(x:Le):Prop where
 i:∃(a:Nat) (e u:Int),x=leG kk a e u/\a<3/\(0<=e/\e<=(w.h a).h)/\(1<=u/\u<=1099511627776)/\(∃y∈w.l,y.s=a/\u<=y.u)/\∀i:Nat,e<=i->i<w.b.length->u<=w.b.getD i 0
structure EOk (w:Wd)(y:Gt):Prop where
 s:0<=y.s/\y.s<3
 u:y.u<=w.T+w.m
 h:y.h<=(w.h y.s.toNat).h
 b:∀i:Nat,y.h<=i->i<w.b.length->y.u<=w.b.getD i 0
structure TOk (w:Wd)(a:Nat)(x:Hd):Prop where
 s:x.s=a
 h:0<=x.h/\x.h<=w.t
 z:x.le.sgn.length=16
 l:x.le.til=0\/(SOk w x.le/\x.le.site=x.s)
structure WI (w:Wd)(q:Nat):Prop where
 v:VG w.t w.m w.l
 m:w.m<=500
 n:w.t=w.b.length
 k:w.b.length<=q
 T:1000<=w.T/\w.T<=1000+255*q
 e:∀y∈w.l,EOk w y
 c:w.l.length<=3
 a:∀a,a<3->TOk w a (w.h a)
 s:∀x∈w.s,SOk w x
 z:w.s.length<=q
 b:∀i:Nat,i<w.b.length->0<=w.b.getD i 0/\w.b.getD i 0<=1099511627776
theorem mxU_le {l:List Gt}{b:Int}(h0:0<=b)(h:∀y∈l,y.u<=b):∀j,j<=l.length->mxU l j<=b
 | 0,_=>h0
 | j+1,hj=>by
   have h1:=mxU_le h0 h j (by omega)
   have h2:=h _ (List.getElem_mem (show j<l.length by omega))
   rw[<-gat_eq (show j<l.length by omega)]at h2
   rw[mxU];split<;>omega
theorem mxU_ge {l:List Gt}:∀j i,i<j->j<=l.length->(gat l i).u<=mxU l j
 | 0,i,h,_=>by omega
 | j+1,i,h,hj=>by
   rw[mxU]
   by_cases e:i=j
   . subst e;split<;>omega
   . have:=mxU_ge (l:=l) j i (by omega) (by omega)
     split<;>omega
theorem mxU_nn {l:List Gt}:∀j,0<=mxU l j
 | 0=>Int.le_refl _
 | j+1=>by
   have:=mxU_nn (l:=l) j
   rw[mxU];split<;>omega
theorem mxU_mem {l:List Gt}{y:Gt}(h:y∈l):y.u<=mxU l l.length:=by
 obtain⟨i,hi,rfl⟩:=List.getElem_of_mem h
 rw[<-gat_eq hi];exact mxU_ge _ _ hi (Nat.le_refl _)
theorem srt_len :∀{l:List Gt} {a:Int},Srt a l->(∀y∈l,y.s<3)->-1<=a->(l.length:Int)<=3-(a+1)\/l=[]
 | [],a,_,_,_=>.inr rfl
 | y::l,a,h,h2,h3=>by
   have h4:=h.1
   have h5:=h2 y (by simp)
   rcases srt_len h.2 (fun x hx=>h2 x (by simp[hx])) (by omega)with h6|h6
   . left;simp only[List.length_cons];omega
   . left;subst h6;simp only[List.length_cons,List.length_nil];omega
structure Up (w w':Wd):Prop where
 h:∀a,a<3->(w.h a).h<=(w'.h a).h
 l:∀y∈w.l,∃y'∈w'.l,y'.s=y.s/\y.u<=y'.u
 b:∀i:Nat,i<w'.b.length->(i<w.b.length/\w.b.getD i 0=w'.b.getD i 0)\/∀y∈w.l,y.u<=w'.b.getD i 0
 t:w.T<=w'.T
 m:w'.m=w.m
theorem SOk.up {w w':Wd}(u:Up w w'){x:Le}(h:SOk w x):SOk w' x:=by
 obtain⟨a,e,v,h1,h2,h3,h4,⟨y,h5,h6,h7⟩,h8⟩:=h.i
 obtain⟨y',g1,g2,g3⟩:=u.l y h5
 have hh:=u.h a h2
 refine⟨a,e,v,h1,h2,⟨h3.1,by omega⟩,h4,⟨y',g1,by omega,by omega⟩,fun i hi hi2=> ?_⟩
 rcases u.b i hi2 with ⟨k1,k2⟩|k
 . rw[<-k2];exact h8 i hi k1
 . have:=k y h5;omega
theorem EOk.up {w w':Wd}(u:Up w w'){y:Gt}(hy:y∈w.l)(h:EOk w y):EOk w' y:=by
 have hm:=u.m
 have ht:=u.t
 have hs:=h.s
 have hh:=u.h y.s.toNat (by omega)
 refine⟨h.s,by rw[hm];have:=h.u;omega,by have:=h.h;omega,fun i hi hi2=> ?_⟩
 rcases u.b i hi2 with ⟨k1,k2⟩|k
 . rw[<-k2];exact h.b i hi k1
 . exact k y hy
theorem TOk.up {w w':Wd}(u:Up w w'){a:Nat}{x:Hd}(ht:w.t<=w'.t)(h:TOk w a x):TOk w' a x:=by
 refine⟨h.s,⟨h.h.1,by have:=h.h.2;omega⟩,h.z,?_⟩
 rcases h.l with h1|⟨h1,h2⟩
 . exact .inl h1
 . exact .inr ⟨h1.up u,h2⟩
def Wd.tick (w:Wd)(d:Int):Wd:=⟨w.t,w.m,w.l,w.h,w.s,w.b,w.T+d⟩
theorem up_tick (w:Wd){d:Int}(hd:0<=d):Up w (w.tick d) :=
 ⟨fun a _=>Int.le_refl _,fun y hy=>⟨y,hy,rfl,Int.le_refl _⟩,fun i hi=>.inl ⟨hi,rfl⟩,by show w.T<=w.T+d;omega,rfl⟩
theorem WI.tick {w:Wd}{k:Nat}(h:WI w k){d:Int}(h0:0<=d)(h1:d<=255):WI (w.tick d) (k+1):=by
 have u:=up_tick w h0
 have a1:=h.k
 have a2:=h.T
 have a3:=h.z
 exact⟨h.v,h.m,h.n,by show w.b.length<=k+1;omega,by show 1000<=w.T+d/\w.T+d<=1000+255*((k+1:Nat):Int);omega,fun y hy=>(h.e y hy).up u hy,h.c,fun a ha=>(h.a a ha).up u (Int.le_refl _),fun x hx=>(h.s x hx).up u,by show w.s.length<=k+1;omega,h.b⟩
theorem getD_old {b:List Int}{x:Int}{i:Nat}(h:i<b.length):(b++[x]).getD i 0=b.getD i 0:=by
 simp[List.getD,List.getElem?_append_left h]
theorem getD_new {b:List Int}{x:Int}:(b++[x]).getD b.length 0=x:=by simp[List.getD]
def Wd.iss (w:Wd):Wd:=⟨w.t+1,w.m,w.l,w.h,w.s,w.b++[mxU w.l w.l.length],w.T⟩
theorem up_iss (w:Wd):Up w w.iss:=by
 refine⟨fun a _=>Int.le_refl _,fun y hy=>⟨y,hy,rfl,Int.le_refl _⟩,fun i hi=> ?_,Int.le_refl _,rfl⟩
 have hi:i<(w.b++[mxU w.l w.l.length]).length:=hi
 rw[List.length_append,List.length_singleton]at hi
 by_cases h:i<w.b.length
 . exact .inl ⟨h,(getD_old h).symm⟩
 . have e:i=w.b.length:=by omega
   subst e
   refine .inr fun y hy=> ?_
   show y.u<=(w.b++[mxU w.l w.l.length]).getD w.b.length 0
   rw[getD_new];exact mxU_mem hy
theorem WI.iss {w:Wd}{k:Nat}(h:WI w k)(hk:w.b.length+1<=k)(hk2:k<=1000):WI w.iss k:=by
 have u:=up_iss w
 have hn:=h.n
 have hv:=vg_iff.1 h.v
 have hlen:(w.b++[mxU w.l w.l.length]).length=w.b.length+1:=by simp
 refine⟨vg_iff.2 ⟨⟨hv.1.1,fun y hy=> ?_⟩,⟨?_,?_⟩,hv.2.2⟩,h.m,?_,?_,h.T,fun y hy=>(h.e y hy).up u hy,h.c,fun a ha=>(h.a a ha).up u ?_,fun x hx=>(h.s x hx).up u,h.z,fun i hi=> ?_⟩
 . obtain⟨b1,b2,b3,b4,b5⟩:=hv.1.2 y hy
   exact⟨b1,b2,b3,by show y.h<=w.t+1;omega,b5⟩
 . show 0<=w.t+1;omega
 . show w.t+1<=_;omega
 . show w.t+1=(((w.b++[mxU w.l w.l.length]).length:Nat):Int);rw[hlen];omega
 . show(w.b++[mxU w.l w.l.length]).length<=k;rw[hlen];exact hk
 . show w.t<=w.t+1;omega
 . have hi:i<(w.b++[mxU w.l w.l.length]).length:=hi
   show 0<=(w.b++[mxU w.l w.l.length]).getD i 0/\(w.b++[mxU w.l w.l.length]).getD i 0<=1099511627776
   rw[hlen]at hi
   by_cases h2:i<w.b.length
   . rw[getD_old h2];exact h.b i h2
   . have e:i=w.b.length:=by omega
     subst e;rw[getD_new];exact⟨mxU_nn _,mxU_le (by decide) (fun y hy=>(hv.1.2 y hy).2.2.2.2) _ (Nat.le_refl _)⟩
theorem mxU_T {w:Wd}{k:Nat}(h:WI w k):mxU w.l w.l.length<=w.T+w.m:=by
 have:=h.T.1
 have:=h.v.2.2
 exact mxU_le (by omega) (fun y hy=>(h.e y hy).u) _ (Nat.le_refl _)
end Go.Proofs.S30.G
namespace Go.Proofs.S30.G
open Go Go.Ev Go.Proofs Go.Ck
open Go.Proofs.S30.H (GlK GlR)
def setH (h:Nat->Hd)(a:Nat)(x:Hd):Nat->Hd:=fun i=>if i=a then x else h i
theorem setH_at (h:Nat->Hd)(a:Nat)(x:Hd):setH h a x a=x:=if_pos rfl
theorem setH_ne (h:Nat->Hd){a i:Nat}(x:Hd)(n:i≠a):setH h a x i=h i:=if_neg n
def Wd.put (w:Wd)(a:Nat)(x:Hd):Wd:=⟨w.t,w.m,w.l,setH w.h a x,w.s,w.b,w.T⟩
theorem up_put (w:Wd){a:Nat}{x:Hd}(hx:(w.h a).h<=x.h):Up w (w.put a x) :=
 ⟨fun i _=>by
   show(w.h i).h<=(setH w.h a x i).h
   by_cases e:i=a
   . subst e;rw[setH_at];exact hx
   . rw[setH_ne _ _ e];exact Int.le_refl _,fun y hy=>⟨y,hy,rfl,Int.le_refl _⟩,fun i hi=>.inl ⟨hi,rfl⟩,Int.le_refl _,rfl⟩
theorem WI.put {w:Wd}{k:Nat}(h:WI w k){a:Nat}(ha:a<3){x:Hd}(hx:(w.h a).h<=x.h)(ok:TOk w a x):WI (w.put a x) k:=by
 have u:=up_put w hx
 refine⟨h.v,h.m,h.n,h.k,h.T,fun y hy=>(h.e y hy).up u hy,h.c,fun i hi=> ?_,fun x hx=>(h.s x hx).up u,h.z,h.b⟩
 show TOk (w.put a x) i (setH w.h a x i)
 by_cases e:i=a
 . subst e;rw[setH_at];exact ok.up u (Int.le_refl _)
 . rw[setH_ne _ _ e];exact(h.a i hi).up u (Int.le_refl _)
theorem WI.hear {w:Wd}{k:Nat}(h:WI w k){a:Nat}(ha:a<3){e:Int}(h0:0<=e)(h1:e<=w.t):WI (w.put a ⟨(w.h a).s,mx (w.h a).h e,(w.h a).le⟩) k:=by
 have o:=h.a a ha
 have hm:(w.h a).h<=mx (w.h a).h e/\mx (w.h a).h e<=w.t:=by
  have:=o.h
  unfold mx;split<;>omega
 exact h.put ha hm.1 ⟨o.s,⟨by have:=o.h;show 0<=mx (w.h a).h e;omega,hm.2⟩,o.z,o.l⟩
theorem WI.hv {w:Wd}{k:Nat}(h:WI w k){a:Nat}(ha:a<3):HV (w.h a):=by
 have o:=h.a a ha
 have ht:=h.v.2.1
 refine⟨decide_eq_true (by rw[o.s];omega),by have:=o.h;omega,?_⟩
 rcases o.l with e|⟨e,_⟩
 . rw[e];decide
 . obtain⟨a',e',u,h1,_,_,h4,_⟩:=e.i
   rw[h1]
   show 0<=u/\u<=_
   omega
theorem WI.take {w:Wd}{k:Nat}(h:WI w k){x:Le}(hx:SOk w x):∃a:Nat,a<3/\x.site=a/\(tkE [kk] (w.h a) x).2=0/\WI (w.put a (tkE [kk] (w.h a) x).1) k:=by
 obtain⟨a,e,v,h1,h2,h3,h4,h5⟩:=hx.i
 have o:=h.a a h2
 have hs:x.site=a:=by rw[h1];rfl
 have hp:x.ep=e:=by rw[h1];rfl
 have hc:leC [kk] x=0:=by rw[h1];exact leC_own (decide_eq_true (by omega)) h4.1 h4.2
 have hg:x.sgn.length=16:=by rw[h1];exact sea_len _ _ _
 refine⟨a,h2,hs,?_⟩
 unfold tkE
 rw[if_neg (fun q=>q ⟨h.hv h2,by rw[hs,o.s]⟩),if_neg (by rw[hc];simp),if_neg (by omega)]
 by_cases g:x.til<=(w.h a).le.til
 . rw[if_pos g]
   exact⟨rfl,h.put h2 (Int.le_refl _) o⟩
 . rw[if_neg g]
   exact⟨rfl,h.put h2 (Int.le_refl _) ⟨o.s,o.h,hg,.inr ⟨hx,by show x.site=(w.h a).s;rw[hs,o.s]⟩⟩⟩
theorem findG_mem :∀(l:List Gt) (a:Int),findG l a∈l\/findG l a=⟨a,0,0⟩
 | [],a=>.inr rfl
 | y::l,a=>by
   rw[findG];split
   . left;simp
   . rcases findG_mem l a with h|h
     . left;simp[h]
     . exact .inr h
theorem putL_has :∀(l:List Gt) (x:Gt),x∈putL l x
 | [],x=>by simp[putL]
 | y::l,x=>by
   rw[putL];split
   . simp
   . split
     . simp
     . simp[putL_has l x]
theorem putL_keep :∀{l:List Gt} {x y:Gt},y∈l->y.s≠x.s->y∈putL l x
 | z::l,x,y,h,hn=>by
   rw[putL];split
   . simp at h ⊢;exact .inr h
   . split
     . simp at h ⊢
       rcases h with h|h
       . subst h;exact absurd (by assumption) (Ne.symm hn)
       . exact .inr h
     . simp at h ⊢
       rcases h with h|h
       . exact .inl h
       . exact .inr (putL_keep h hn)
theorem find_uniq {a:Int}:∀{l:List Gt} {y:Gt},Srt a l->y∈l->findG l y.s=y
 | z::l,y,h,hy=>by
   rw[findG]
   simp at hy
   rcases hy with rfl|hy
   . rw[if_pos rfl]
   . have:z.s<y.s:=srt_lt h.2 hy
     rw[if_neg (by omega)];exact find_uniq h.2 hy
where
 srt_lt:∀{l:List Gt} {a:Int} {y:Gt},Srt a l->y∈l->a<y.s
 | z::l,a,y,h,hy=>by
   simp at hy
   rcases hy with rfl|hy
   . exact h.1
   . have:=srt_lt h.2 hy;have:=h.1;omega
def Wd.ent (w:Wd)(y:Gt):Wd:=⟨w.t,w.m,putL w.l y,w.h,w.s,w.b,w.T⟩
theorem up_ent {w:Wd}{k:Nat}(h:WI w k){y:Gt}(hy:(findG w.l y.s).u<=y.u):Up w (w.ent y):=by
 refine⟨fun _ _=>Int.le_refl _,fun z hz=> ?_,fun i hi=>.inl ⟨hi,rfl⟩,Int.le_refl _,rfl⟩
 by_cases e:z.s=y.s
 . refine⟨y,putL_has _ _,e.symm,?_⟩
   have:=find_uniq (vg_iff.1 h.v).1.1 hz
   rw[e]at this;rw[this]at hy;exact hy
 . exact⟨z,putL_keep hz e,rfl,Int.le_refl _⟩
theorem WI.ent {w:Wd}{k:Nat}(h:WI w k){y:Gt}(hy:(findG w.l y.s).u<=y.u)(ok:EOk w y)(h1:0<=y.h/\y.h<=w.t)(h2:0<=y.u/\y.u<=1099511627776):WI (w.ent y) k:=by
 have u:=up_ent h hy
 have hs:=ok.s
 have v:VG w.t w.m (putL w.l y):=h.v.put (by omega) h1 h2
 have e:∀z∈putL w.l y,EOk (w.ent y) z:=fun z hz=>by
  rcases putL_mem hz with rfl|hz
  . exact⟨ok.s,ok.u,ok.h,ok.b⟩
  . exact(h.e z hz).up u hz
 refine⟨v,h.m,h.n,h.k,h.T,e,?_,fun i hi=>(h.a i hi).up u (Int.le_refl _),fun x hx=>(h.s x hx).up u,h.z,h.b⟩
 rcases srt_len (vg_iff.1 v).1.1 (fun z hz=>(e z hz).s.2) (Int.le_refl _)with c|c
 . show(putL w.l y).length<=3;omega
 . show(putL w.l y).length<=3;rw[c];simp
theorem WI.find {w:Wd}{k:Nat}(h:WI w k){a:Nat}(ha:a<3):(findG w.l a).u<=w.T+w.m/\(findG w.l a).h<=(w.h a).h/\∀i:Nat,(findG w.l a).h<=i->i<w.b.length->(findG w.l a).u<=w.b.getD i 0:=by
 have hs:=findG_s w.l (a:Int)
 have ht:=h.T.1
 have hm:=h.v.2.2
 rcases findG_mem w.l (a:Int)with e|e
 . have o:=h.e _ e
   have o1:=o.h
   rw[hs]at o1
   exact⟨o.u,o1,o.b⟩
 . rw[e]
   exact⟨by show(0:Int)<=w.T+w.m;omega,(h.a a ha).h.1,fun i _ hi=>(h.b i hi).1⟩
theorem WI.conf {w:Wd}{k:Nat}(h:WI w k){a:Nat}(ha:a<3){e:Int}(h1:(findG w.l a).h<e)(h2:e<=(w.h a).h):WI (w.ent ⟨a,e,(findG w.l a).u⟩) k:=by
 have o:=h.find ha
 have f:=findG_ok h.v (a:Int)
 have t:=(h.a a ha).h
 exact h.ent (y:=⟨a,e,(findG w.l a).u⟩) (Int.le_refl _) ⟨by show 0<=(a:Int)/\(a:Int)<3;omega,o.1,by show e<=(w.h (Int.toNat a)).h;rw[Int.toNat_natCast];exact h2,fun i hi hi2=>o.2.2 i (by have hi:e<=(i:Int):=hi;omega) hi2⟩ ⟨by show 0<=e;omega,by show e<=w.t;omega⟩ ⟨f.2.2.1,f.2.2.2⟩
def Wd.snt (w:Wd)(x:Le):Wd:=⟨w.t,w.m,w.l,w.h,w.s++[x],w.b,w.T⟩
theorem WI.snt {w:Wd}{k:Nat}(h:WI w k){x:Le}(hx:SOk w x)(hk:w.s.length+1<=k):WI (w.snt x) k:=by
 have u:Up w (w.snt x):=⟨fun _ _=>Int.le_refl _,fun y hy=>⟨y,hy,rfl,Int.le_refl _⟩,fun i hi=>.inl ⟨hi,rfl⟩,Int.le_refl _,rfl⟩
 refine⟨h.v,h.m,h.n,h.k,h.T,fun y hy=>(h.e y hy).up u hy,h.c,fun i hi=>(h.a i hi).up u (Int.le_refl _),fun z hz=> ?_,by show(w.s++[x]).length<=k;simp;exact hk,h.b⟩
 have hz:z∈w.s++[x]:=hz
 simp at hz
 rcases hz with hz|rfl
 . exact(h.s z hz).up u
 . exact hx.up u
theorem WI.sok {w:Wd}{k:Nat}(h:WI w k){a:Nat}(ha:a<3){u:Int}(h1:1<=u/\u<=1099511627776)(h2:w.t<=(findG w.l a).h)(h3:u<=(findG w.l a).u):SOk w (leG kk a w.t u):=by
 have o:=h.find ha
 have hn:=h.n
 refine⟨a,w.t,u,rfl,ha,⟨h.v.2.1.1,by omega⟩,h1,?_,fun i hi hi2=>by omega⟩
 rcases findG_mem w.l (a:Int)with e|e
 . exact⟨_,e,findG_s _ _,h3⟩
 . rw[e]at h3
   have h3:u<=0:=h3
   omega
theorem WI.grow {w:Wd}{k:Nat}(h:WI w k){a:Nat}(ha:a<3){u:Int}(h1:1<=u/\u<=1099511627776)(h2:w.t<=(findG w.l a).h)(h3:(findG w.l a).u<=u)(h4:u<=w.T+w.m):WI (w.ent ⟨a,(findG w.l a).h,u⟩) k:=by
 have o:=h.find ha
 have f:=findG_ok h.v (a:Int)
 have hn:=h.n
 exact h.ent (y:=⟨a,(findG w.l a).h,u⟩) h3 ⟨by show 0<=(a:Int)/\(a:Int)<3;omega,h4,by show(findG w.l a).h<=(w.h (Int.toNat a)).h;rw[Int.toNat_natCast];exact o.2.1,fun i hi hi2=>by have hi:(findG w.l a).h<=(i:Int):=hi;have hi2:i<w.b.length:=hi2;omega⟩ ⟨f.1,f.2.1⟩ ⟨by show 0<=u;omega,h1.2⟩
theorem find_ent (w:Wd)(y:Gt):findG (w.ent y).l y.s=y:=findG_put _ _
end Go.Proofs.S30.G
