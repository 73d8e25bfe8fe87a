/-
  Flows: what is sent is a flow. No condition.
-/
import Derived.Test.YtaloneiaejhopaaDoorW50G18x3
import Derived.Test.YtaloneiaejhopaaDoorW50G4x3
set_option linter.all false
open List renaming getD_eq_getElem?_getD->wB,getElem?_eq_getElem->wC,length_map->wD,length_append->wE,append_assoc->wF,getElem?_eq_none->wG,getElem?_map->wH,ext_getElem->wJ,mem_map->wK
open Nat renaming lt_or_ge->wL,exists_eq_add_of_le->wM
namespace Go.Proofs.S50
open Go Go.Ev Go.Proofs Go.Fl
variable {gl :Gl} {n:Nat}
def gvL (g:Nt)(fl:List Int)(k:Nat):List Int:=(List.range g.n).map fun v=>giv g.a fl v k
theorem zkd (g:Nt)(fl:List Int)(k:Nat):(gvL g fl k).length=g.n:=by simp[gvL]
theorem z25 {g:Nt}{fl:List Int}{k v:Nat}(h:v<g.n):nth (gvL g fl k) v=giv g.a fl v k:=by
 unfold nth gvL
 rw[wB,wH,List.getElem?_range h];rfl
theorem z3v {g:Nt}{fl:List Int}{v:Nat}(h:∀i,i<g.a.length->0<=nth fl i/\nth fl i<=1073741824):∀k,k<=g.a.length->-((k:Int)*1073741824)<=giv g.a fl v k/\giv g.a fl v k<=(k:Int)*1073741824
 | 0,_=>by simp[giv]
 | k+1,hk=>by
   have ih:=z3v (v:=v) h k (by omega)
   have:=h k (by omega)
   rw[giv]
   split<;>split<;>omega
theorem z7w {g:Nt}{fl:List Int}{k:Nat}(hf:(art g.a k).f<g.n)(ht:(art g.a k).t<g.n)(hne:(art g.a k).f≠(art g.a k).t) :
  gvL g fl (k+1)=((gvL g fl k).set (art g.a k).f (giv g.a fl (art g.a k).f k+nth fl k)).set (art g.a k).t (giv g.a fl (art g.a k).t k-nth fl k):=by
 apply wJ
 . simp[gvL]
 . intro v h1 h2
   have hv:v<g.n:=by simpa[gvL]using h1
   simp only[gvL,List.getElem_map,List.getElem_range,List.getElem_set,giv]
   by_cases e1:(art g.a k).t=v
   . subst e1
     rw[if_neg hne,if_pos rfl,if_pos rfl];omega
   . rw[if_neg e1,if_neg e1]
     by_cases e2:(art g.a k).f=v
     . subst e2
       rw[if_pos rfl,if_pos rfl];omega
     . rw[if_neg e2,if_neg e2];omega
def L77 :MC:=match m77 with| .seq _ (.seq _ (.seq _ (.seq _ (.seq (.seq _ (.block _ (.loop _ b))) _))))=>b|_=>.skip
def L77b :MC:=match m77 with| .seq _ (.seq _ (.seq _ (.seq _ (.seq _ (.seq (.seq _ (.block _ (.loop _ b))) _)))))=>b|_=>.skip
abbrev K77 :List Kp:=[.slot 1,.slot 2,.slot 7,.slot 9,.slot 10,.slot 27,.slot 28,.slot 29,.key 7,.key 25]
abbrev K77b :List Kp:=[.slot 1,.slot 2,.slot 7,.slot 10,.slot 70,.slot 71,.slot 72,.key 7,.key 25]
def S77 (g:Nt)(b:Bool)(sh:Sh)(s to:Nat)(w:Fq)(fl:List Int)(k:Nat):St :=
 ⟨[.set 29 (i64 (k:Int)),.set 28 (i64 (g.a.length:Int)),.set 27 (.lst b sh (rs g.a)),.set 10 (i64 (tot g.a fl k)),.set 9 (.sl 25 [] 0 g.n),.set 7 (.ptr 7 []),.set 2 (i64 (to:Int)),.set 1 (i64 (s:Int))],
   [(25,.grow .sc (ns (gvL g fl k))),(7,.fix yA5 (fqV w fl))]⟩
def S77b (g:Nt)(s to:Nat)(w:Fq)(fl:List Int)(k:Nat):St :=
 ⟨[.set 72 (i64 (k:Int)),.set 71 (i64 (g.n:Int)),.set 70 (.sl 25 [] 0 g.n),.set 10 (i64 (tot g.a fl g.a.length)),.set 7 (.ptr 7 []),.set 2 (i64 (to:Int)),.set 1 (i64 (s:Int))],
   [(25,.grow .sc (ns (gvL g fl g.a.length))),(7,.fix yA5 (fqV w fl))]⟩
section
variable {d :Nat} {g:Nt} {b:Bool} {sh:Sh} {s to:Nat} {w:Fq} {fl:List Int} (hg:GOk g) (hsh:g.a=[]\/sh=yA4) (hf:FB g fl)
include hg hsh hf
theorem qlh :∀i,i<g.a.length->0<=nth fl i/\nth fl i<=1073741824:=fun i hi=>⟨(hf.b i hi).1,Int.le_trans (hf.b i hi).2 (hg.c i hi)⟩
theorem qf4 {k:Nat}(hk:k<g.a.length):zaz K77 (evC gl (call gl tab d) L77 (S77 g b sh s to w fl k))=some (S77 g b sh s to w fl (k+1)):=by
 have hsh:sh=yA4:=hsh.resolve_left (fun e=>by rw[e]at hk;simp at hk)
 subst hsh
 have hfl:=qlh hg (.inr rfl:g.a=[]\/yA4=yA4) hf
 have x1:=zix hk
 have x2:=zb2 (show k<fl.length by rw[hf.l];exact hk)
 have h1:=hg.ok.f k hk
 have h2:=hg.ok.t k hk
 have h3:=hg.ok.ne k hk
 have h4:=hf.b k hk
 have hb1:=@z3v g fl (art g.a k).f hfl k (by omega)
 have hb2:=@z3v g fl (art g.a k).t hfl k (by omega)
 have ha:=hg.a
 have hn:=hg.n
 have hkk:=hg.ok.k k hk
 have hfk:=hfl k hk
 have htb:=qax (g:=g) (fl:=fl) hg.ok.k hfl k (by omega)
 have h5:0<=(art g.a k).k*nth fl k:=Int.mul_nonneg hkk.1 hfk.1
 have h6:(art g.a k).k*nth fl k<=1048576*1073741824:=Int.mul_le_mul hkk.2 hfk.2 hfk.1 (by omega)
 have et:tot g.a fl (k+1)=tot g.a fl k+(art g.a k).k*nth fl k:=rfl
 have eg:=z7w (g:=g) (fl:=fl) (k:=k) h1 h2 h3
 have x3:=zb2 (l:=gvL g fl k) (show(art g.a k).f<_ by rw[zkd];exact h1)
 have x4:=zb2 (l:=gvL g fl k) (show(art g.a k).t<_ by rw[zkd];exact h2)
 rw[z25 h1]at x3
 rw[z25 h2]at x4
 have x5:∀y,((ns (gvL g fl k)).set (art g.a k).f y)[(art g.a k).t]? =some (i64 (giv g.a fl (art g.a k).t k)):=fun y=>by rw[List.getElem?_set_ne h3];exact x4
 have gl1:=zkd g fl k
 have w1:IntKind.wrap .i64 (nth fl k*(art g.a k).k)=(art g.a k).k*nth fl k:=by rw[Int.mul_comm];exact w64 (by omega)
 have w2:IntKind.wrap .i64 (tot g.a fl k+(art g.a k).k*nth fl k)=tot g.a fl k+(art g.a k).k*nth fl k:=w64 (by omega)
 unfold S77
 rw[et,eg]
 generalize giv g.a fl (art g.a k).f k=z1 at *
 generalize giv g.a fl (art g.a k).t k=z2 at *
 generalize (art g.a k).k*nth fl k=z3 at *
 generalize tot g.a fl k=z4 at *
 generalize gvL g fl k=G at *
 generalize nth fl k=xk at *
 simp(disch:=apply zq;omega) only[go_sem,simprocAttr,↓Nat.reduceEqDiff,xx,L77,m77,zah,zab,x1,x2,x3,x5,hf.l,zh4,gl1,List.length_set,w1,w2]
theorem qba (hgv:∀v,giv g.a fl v g.a.length=(if v=s then w.s else 0)-(if v=to then w.s else 0))(hne:s≠to){k:Nat}(hk:k<g.n):zaz K77b (evC gl (call gl tab d) L77b (S77b g s to w fl k))=some (S77b g s to w fl (k+1)):=by
 have hn:=hg.n
 have x3:=zb2 (l:=gvL g fl g.a.length) (show k<_ by rw[zkd];exact hk)
 rw[z25 hk,hgv]at x3
 have gl1:=zkd g fl g.a.length
 by_cases e1:k=s
 . subst e1
   rw[if_pos rfl,if_neg hne]at x3
   have b1:((k:Int)==(k:Int))=true:=by simp
   have b2:((k:Int) != (k:Int))=false:=by simp
   have b3:(w.s-0 != w.s)=false:=by simp
   simp(disch:=apply zq;omega) only[go_sem,simprocAttr,↓Nat.reduceEqDiff,xx,L77b,m77,S77b,zab,gl1,x3,b1,b2,b3]
 . have b1:((k:Int)==(s:Int))=false:=by rw[beq_eq_false_iff_ne];omega
   have b2:((k:Int) != (s:Int))=true:=by simp;omega
   rw[if_neg e1]at x3
   by_cases e2:k=to
   . subst e2
     rw[if_pos rfl]at x3
     have b4:((k:Int) != (k:Int))=false:=by simp
     simp(disch:=apply zq;omega) only[go_sem,simprocAttr,↓Nat.reduceEqDiff,xx,L77b,m77,S77b,zab,gl1,x3,b1,b2,b4]
   . rw[if_neg e2]at x3
     have b4:((k:Int) != (to:Int))=true:=by simp;omega
     have b5:((0:Int)-0 != 0)=false:=by decide
     simp(disch:=apply zq;omega) only[go_sem,simprocAttr,↓Nat.reduceEqDiff,xx,L77b,m77,S77b,zab,gl1,x3,b1,b2,b4,b5]
theorem z8b (h:1<=n)(hgv:∀v,giv g.a fl v g.a.length=(if v=s then w.s else 0)-(if v=to then w.s else 0))(hne:s≠to)(hc:w.c=tot g.a fl g.a.length) :
  call gl tab n 77 [nV g b sh,i64 (s:Int),i64 (to:Int),fqV w fl] []=some (.bool true,[],[]):=by
 obtain⟨d,rfl⟩:=Nat.exists_eq_add_of_le' h
 have hs1:=fun i hi=>@qf4 gl d g b sh s to w fl hg hsh hf i hi
 have hs2:=fun i hi=>@qba gl d g sh s to w fl hg hsh hf hgv hne i hi
 simp only[L77,L77b,m77]at hs1 hs2
 have ha:=hg.a
 have hn:=hg.n
 have hl:=hf.l
 have l1:g.n<=LIM:=by unfold LIM;omega
 have hz:=z1s g.n 0
 have e0:gvL g fl 0=List.replicate g.n 0:=by
  unfold gvL
  apply wJ
  . simp
  . intro v h1 h2;simp[giv]
 have b0:((g.a.length:Int) != (g.a.length:Int))=false:=by simp
 have b1:(tot g.a fl g.a.length==w.c)=true:=by rw[hc];simp
 have gl1:=zkd g fl g.a.length
 rw[zai (fd:=fd77) rfl]
 simp(disch:=apply zq;omega) only[go_sem,simprocAttr,↓Nat.reduceEqDiff,xx,fd77,m77,zah,zab,hl,b0,l1,hz]
 rw[zak (S77 g b sh s to w fl) g.a.length (by unfold LF;omega)]
 . simp(disch:=apply zq;omega) only[go_sem,simprocAttr,↓Nat.reduceEqDiff,xx,S77,zah,zab,gl1]
   rw[zak (S77b g s to w fl) g.n (by unfold LF;omega)]
   . simp(disch:=apply zq;omega) only[go_sem,simprocAttr,↓Nat.reduceEqDiff,xx,S77b,b1,zab,gl1]
   . simp(disch:=apply zq;omega) only[go_sem,simprocAttr,↓Nat.reduceEqDiff,xx,S77b]
   . exact hs2
   . simp(disch:=apply zq;omega) only[go_sem,simprocAttr,↓Nat.reduceEqDiff,xx,S77b]
 . simp(disch:=apply zq;omega) only[go_sem,simprocAttr,↓Nat.reduceEqDiff,xx,S77,e0,tot]
 . exact hs1
 . simp(disch:=apply zq;omega) only[go_sem,simprocAttr,↓Nat.reduceEqDiff,xx,S77,zah]
end
end Go.Proofs.S50
namespace Go.Fl
theorem qha {g:Nt}{K:Int}(hg:NOk g K){fl pr:List Int}(h:RN g fl pr){i:Nat}(hi:i<g.a.length) :
  (nth fl i<(art g.a i).c->0<=(art g.a i).k+nth pr (art g.a i).f-nth pr (art g.a i).t)/\(0<nth fl i->(art g.a i).k+nth pr (art g.a i).f-nth pr (art g.a i).t<=0):=by
 have hne:=hg.ne i hi
 refine⟨fun h1=> ?_,fun h1=> ?_⟩
 . have:=h (art g.a i).f i ⟨hi,.inl rfl⟩ (by unfold room;rw[if_pos rfl];omega)
   unfold red cst oth at this
   rw[if_pos rfl,if_pos rfl]at this
   exact this
 . have:=h (art g.a i).t i ⟨hi,.inr rfl⟩ (by unfold room;rw[if_neg hne];omega)
   unfold red cst oth at this
   rw[if_neg hne,if_neg hne]at this
   omega
theorem qaj {g:Nt}{K:Int}(hg:NOk g K)(hK:0<=K)(hB:(g.n:Int)*K+K<far){fl pr out:List Int}{s to:Nat}(hs:s<g.n)(hpb:PB g K pr s to)(hfb:FB g fl)(h:DI g fl pr s out []){i:Nat}(hi:i<g.a.length) :
  (nth out (art g.a i).f<far->¬nth out (art g.a i).t<far->nth fl i=(art g.a i).c)/\(¬nth out (art g.a i).f<far->nth out (art g.a i).t<far->nth fl i=0):=by
 have hne:=hg.ne i hi
 have hf:=hg.f i hi
 have ht:=hg.t i hi
 have hb:=hfb.b i hi
 have step:∀v,v<g.n->nth out v<far->∀i,inc g v i->0<room g fl v i->nth out (oth g v i)<far:=by
  intro v hv hl i hi hr
  have hk:=hg.k i hi.1
  rcases h.r v hv hl with hm|hm
  . exact absurd hm (by simp)
  . have h1:=hm i hi hr
    rcases h.p v hv with h2|⟨P,h2⟩
    . omega
    . have h3:=h2.bd hg hK hs hpb
      have ho:=zi8 hg hi
      have h4:=hpb.b _ ho
      have h5:cst g v i<=K:=by unfold cst;split<;>omega
      unfold red at h1
      omega
 refine⟨fun h1 h2=> ?_,fun h1 h2=> ?_⟩
 . by_cases e:nth fl i<(art g.a i).c
   . have:=step _ hf h1 i ⟨hi,.inl rfl⟩ (by unfold room;rw[if_pos rfl];omega)
     unfold oth at this
     rw[if_pos rfl]at this
     exact absurd this h2
   . omega
 . by_cases e:0<nth fl i
   . have:=step _ ht h2 i ⟨hi,.inr rfl⟩ (by unfold room;rw[if_neg hne];omega)
     unfold oth at this
     rw[if_neg hne]at this
     exact absurd this h1
   . omega
def sN (F:Nat->Int):Nat->Int
 | 0=>0
 | n+1=>sN F n+F n
theorem z0v (F G:Nat->Int):∀n,sN (fun v=>F v+G v) n=sN F n+sN G n
 | 0=>rfl
 | n+1=>by simp only[sN];rw[z0v F G n];omega
theorem zv0 {F G:Nat->Int}:∀{n:Nat},(∀v,v<n->F v=G v)->sN F n=sN G n
 | 0,_=>rfl
 | n+1,h=>by simp only[sN];rw[zv0 fun v hv=>h v (by omega),h n (by omega)]
theorem sN_0 :∀n,sN (fun _=>0) n=0
 | 0=>rfl
 | n+1=>by simp only[sN];rw[sN_0 n];rfl
theorem zvz (P:Nat->Bool)(k:Nat)(x:Int):∀n,sN (fun v=>if P v=true then(if k=v then x else 0)else 0) n=if k<n/\P k=true then x else 0
 | 0=>by simp[sN]
 | n+1=>by
   simp only[sN]
   rw[zvz P k x n]
   by_cases e:k=n
   . subst e
     cases P k<;>simp
   . by_cases h:k<n
     . have h':k<n+1:=by omega
       cases P k<;>cases P n<;>simp[e,h,h']
     . have h':¬k<n+1:=by omega
       cases P k<;>cases P n<;>simp[e,h,h']
def crs (P:Nat->Bool)(a:List Ar)(fl:List Int):Nat->Int
 | 0=>0
 | i+1=>crs P a fl i+(if P (art a i).f=true then nth fl i else 0)-(if P (art a i).t=true then nth fl i else 0)
theorem z4w (P:Nat->Bool){a:List Ar}{fl:List Int}{n:Nat}:∀{m:Nat},(∀i,i<m->(art a i).f<n/\(art a i).t<n)->sN (fun v=>if P v=true then giv a fl v m else 0) n=crs P a fl m
 | 0,_=>by
   refine Eq.trans (zv0 (G:=fun _=>0) fun v _=> ?_) (sN_0 n)
   simp only[giv]
   split<;>rfl
 | m+1,h=>by
   have ih:=z4w P (a:=a) (fl:=fl) (n:=n) (m:=m) fun i hi=>h i (by omega)
   obtain⟨h1,h2⟩:=h m (by omega)
   have e1:=zvz P (art a m).f (nth fl m) n
   have e2:=zvz P (art a m).t (-nth fl m) n
   rw[crs,<-ih]
   have e:sN (fun v=>if P v=true then giv a fl v (m+1)else 0) n=sN (fun v=>(if P v=true then giv a fl v m else 0)+((if P v=true then(if(art a m).f=v then nth fl m else 0)else 0)+(if P v=true then(if(art a m).t=v then -nth fl m else 0)else 0))) n:=zv0 fun v _=>by
    simp only[giv]
    by_cases hp:P v=true
    . simp only[if_pos hp]
      by_cases x1:(art a m).f=v<;>by_cases x2:(art a m).t=v<;>simp only[x1,x2,if_true,if_false]<;>omega
    . simp only[if_neg hp];rfl
   rw[e,z0v,z0v,e1,e2]
   by_cases x1:P (art a m).f=true<;>by_cases x2:P (art a m).t=true<;>simp only[x1,x2,h1,h2,and_true,and_false,if_true,if_false,Bool.false_eq_true]<;>omega
def bnd (P:Nat->Bool)(a:List Ar):Nat->Int
 | 0=>0
 | i+1=>bnd P a i+if P (art a i).f=true/\P (art a i).t=false then(art a i).c else 0
theorem z4x {P:Nat->Bool}{a:List Ar}{fl:List Int}:∀{m:Nat},(∀i,i<m->(P (art a i).f=true->P (art a i).t=false->nth fl i=(art a i).c)/\(P (art a i).f=false->P (art a i).t=true->nth fl i=0))->crs P a fl m=bnd P a m
 | 0,_=>rfl
 | m+1,h=>by
   have ih:=z4x (m:=m) fun i hi=>h i (by omega)
   obtain⟨h1,h2⟩:=h m (by omega)
   rw[crs,bnd,ih]
   cases x1:P (art a m).f<;>cases x2:P (art a m).t
   . simp
   . have:=h2 x1 x2;simp[this]
   . have:=h1 x1 x2;simp[this]
   . simp
     try omega
theorem qg4 {P:Nat->Bool}{F:Nat->Int}{s to:Nat}{sent:Int}(hs:P s=true)(ht:P to=false)(hF:∀v,F v=(if v=s then sent else 0)-(if v=to then sent else 0)):∀n,s<n->sN (fun v=>if P v=true then F v else 0) n=sent:=by
 intro n hn
 have e:sN (fun v=>if P v=true then F v else 0) n=sN (fun v=>if P v=true then(if s=v then sent else 0)else 0) n:=zv0 fun v _=>by
  by_cases hp:P v=true
  . rw[if_pos hp,if_pos hp,hF]
    have:v≠to:=fun e=>by rw[e,ht]at hp;cases hp
    rw[if_neg this]
    by_cases e:v=s
    . rw[if_pos e,if_pos e.symm];omega
    . rw[if_neg e,if_neg (Ne.symm e)];omega
  . rw[if_neg hp,if_neg hp]
 rw[e,zvz,if_pos ⟨hn,hs⟩]
theorem qem {g:Nt}{K:Int}(hg:NOk g K)(hK:0<=K)(hB:(g.n:Int)*K+K<far){fl pr out:List Int}{s to:Nat}{A sent:Int}(hs:s<g.n)(h:SI g K s to A fl pr sent)(hd:DI g fl pr s out [])(ht:nth out to=far) :
  bnd (fun v=>decide (nth out v<far)) g.a g.a.length=sent:=by
 have h0:nth out s<far:=by rw[hd.sz];unfold far;decide
 rw[<-z4x (fl:=fl) fun i hi=>by
  have:=qaj hg hK hB hs h.pb h.fb hd hi
  simp only[decide_eq_true_eq,decide_eq_false_iff_not]
  exact this]
 rw[<-z4w _ (n:=g.n) fun i hi=>⟨hg.f i hi,hg.t i hi⟩]
 exact qg4 (s:=s) (to:=to) (by simpa using h0) (by simp[ht]) h.gv g.n hs
end Go.Fl
namespace Go.Fl
theorem z4q {g:Nt}{K:Int}(hg:NOk g K)(hK:0<=K)(hB:(g.n:Int)*K+K<far){fl pr out:List Int}{s to:Nat}(hs:s<g.n)(hpb:PB g K pr s to)(h:DI g fl pr s out []){v i:Nat}(hv:v<g.n)(hl:nth out v<far)(hi:inc g v i)(hr:0<room g fl v i):nth out (oth g v i)<far:=by
 have hk:=hg.k i hi.1
 rcases h.r v hv hl with hm|hm
 . exact absurd hm (by simp)
 . have h1:=hm i hi hr
   rcases h.p v hv with h2|⟨P,h2⟩
   . omega
   . have h3:=h2.bd hg hK hs hpb
     have ho:=zi8 hg hi
     have h4:=hpb.b _ ho
     have h5:cst g v i<=K:=by unfold cst;split<;>omega
     unfold red at h1
     omega
theorem z9g {a b:List Ar}{i:Nat}(h:i<a.length):art (a++b) i=art a i:=by
 unfold art;rw[wB,wB,List.getElem?_append_left h]
theorem zto {a b:List Ar}{i:Nat}(h:a.length<=i):art (a++b) i=art b (i-a.length):=by
 unfold art;rw[wB,wB,List.getElem?_append_right h]
theorem qe2 {α:Type}{f:α->Ar}{l:List α}{k:Nat}{x:α}(h:l[k]? =some x):art (l.map f) k=f x:=by
 unfold art;rw[wB,wH,h];rfl
theorem zme (p:List Sp)(kd:Int):∀n,(ofK p kd n).Nodup
 | 0=>by simp[ofK]
 | n+1=>by
   rw[ofK];split
   . rw[List.nodup_append]
     refine⟨zme p kd n,by simp,fun x hx y hy=> ?_⟩
     rw[List.mem_singleton]at hy
     have:=(zdj.1 hx).1
     omega
   . exact zme p kd n
theorem z9h {p:List Sp}{r:List Rd}{k i:Nat}(h:(ofK p 1 p.length)[k]? =some i):art (netA p r) (p.length+k)=⟨0,2+2*i,(spt p i).cp,0⟩:=by
 have hk:k<(ofK p 1 p.length).length:=by
  rcases wL k (ofK p 1 p.length).length with h1|h1
  . exact h1
  . rw[wG h1]at h;cases h
 unfold netA
 rw[wF,wF,zto (by rw[zc8];omega),zc8,Nat.add_sub_cancel_left,z9g (by unfold aS;rw[wD];exact hk)]
 unfold aS
 rw[qe2 h]
theorem qbx {p:List Sp}{r:List Rd}(h:POk p r){fl:List Int}(hl:fl.length=(netA p r).length){i k:Nat}(hi:i<p.length)(hk:(ofK p 1 p.length)[k]? =some i)(hz:giv (netA p r) fl (2+2*i) (netA p r).length=0) :
  nth fl (p.length+k)=nth fl i:=by
 have hlen:=zd3 p r
 have hkl:k<(ofK p 1 p.length).length:=by
  rcases wL k (ofK p 1 p.length).length with h1|h1
  . exact h1
  . rw[wG h1]at hk;cases hk
 have hkd:=(zdj.1 (List.mem_of_getElem? hk)).2
 rw[z3s _ hl.symm]at hz
 have rest:∀j,p.length+(ofK p 1 p.length).length<=j->j<(netA p r).length->(art (netA p r) j).f≠2+2*i/\(art (netA p r) j).t≠2+2*i:=fun j h1 h2=>by
  have e:art (netA p r) j=art (aO p (ofK p 3 p.length)++aR r) (j-(p.length+(ofK p 1 p.length).length)):=by
   unfold netA
   rw[wF,zto (by rw[wE,zc8];unfold aS;rw[wD];exact h1),wE,zc8]
   unfold aS
   rw[wD]
  have hm:=zin (l:=aO p (ofK p 3 p.length)++aR r) (i:=j-(p.length+(ofK p 1 p.length).length)) (by
   rw[wE];unfold aO aR;rw[wD,wD];omega)
  rw[<-e,List.mem_append]at hm
  generalize art (netA p r) j=w at *
  rcases hm with hm|hm
  . unfold aO at hm
    obtain⟨x,_,rfl⟩:=wK.1 hm
    simp only
    omega
  . unfold aR at hm
    obtain⟨y,hy,rfl⟩:=wK.1 hm
    obtain⟨m,hml,rfl⟩:=zpu hy
    have h3:=h.rf m hml
    have h4:=(h.rk m hml).2
    simp only
    refine⟨by omega,fun e=> ?_⟩
    have:(rdt r m).t.toNat=i:=by omega
    rw[this,hkd]at h4
    exact h4 rfl
 have a1:sIf (fun x=>decide (x.f=2+2*i)) (netA p r) fl=nth fl i:=by
  refine zpj hl.symm (by omega) ?_ fun j hj hne=> ?_
  . rw[zln hi];simp
  . simp only[decide_eq_false_iff_not]
    rcases wL j p.length with h1|h1
    . rw[zln h1];simp only;omega
    rcases wL j (p.length+(ofK p 1 p.length).length)with h2|h2
    . obtain⟨m,rfl⟩:=wM h1
      rw[z9h (wC (show m<(ofK p 1 p.length).length by omega))]
      simp only;omega
    . exact(rest j h2 hj).1
 have a2:sIf (fun x=>decide (x.t=2+2*i)) (netA p r) fl=nth fl (p.length+k):=by
  refine zpj hl.symm (by omega) ?_ fun j hj hne=> ?_
  . rw[z9h hk];simp
  . simp only[decide_eq_false_iff_not]
    rcases wL j p.length with h1|h1
    . rw[zln h1];simp only;omega
    rcases wL j (p.length+(ofK p 1 p.length).length)with h2|h2
    . obtain⟨m,rfl⟩:=wM h1
      have hm:m<(ofK p 1 p.length).length:=by omega
      rw[z9h (wC hm)]
      simp only
      intro e
      have e':(ofK p 1 p.length)[m]=i:=by omega
      have e2:(ofK p 1 p.length)[k]=i:=by rw[wC hkl]at hk;exact Option.some.inj hk
      have hn:=List.pairwise_iff_getElem.1 (zme p 1 p.length)
      rcases Nat.lt_trichotomy m k with h5|h5|h5
      . exact hn m k hm hkl h5 (by rw[e',e2])
      . omega
      . exact hn k m hkl hm h5 (by rw[e',e2])
    . exact(rest j h2 hj).2
 omega
theorem zrl {p:List Sp}{r:List Rd}(h:POk p r){K:Int}(hg:NOk (net p r) K)(hK:0<=K)(hB:((net p r).n:Int)*K+K<far){fl pr out:List Int}{A sent:Int}(hs:SI (net p r) K 0 1 A fl pr sent)(hd:DI (net p r) fl pr 0 out [])
  {i:Nat} (hi:i<p.length) (hk:(spt p i).kd=1) (hlt:nth fl i<(spt p i).cp):nth out (2+2*i)<far:=by
 obtain⟨k,hkl,hke⟩:=List.getElem_of_mem (zdj.2 ⟨hi,hk⟩:i∈ofK p 1 p.length)
 have hk':(ofK p 1 p.length)[k]? =some i:=by rw[wC hkl,hke]
 have hlen:=zd3 p r
 have hz:=hs.gv (2+2*i)
 rw[if_neg (by omega),if_neg (by omega)]at hz
 have e:=qbx h hs.fb.l hi hk' (by rw[show(netA p r)=(net p r).a from rfl,hz];rfl)
 have ha:=z9h (r:=r) hk'
 have hin:inc (net p r) 0 (p.length+k):=⟨by show p.length+k<(netA p r).length;omega,.inl (by show(art (netA p r) _).f=0;rw[ha])⟩
 have h0:(0:Nat)<(net p r).n:=by show 0<2+2*p.length;omega
 have:=z4q hg hK hB h0 hs.pb hd h0 (by rw[hd.sz];unfold far;decide) hin (by
  unfold room
  rw[if_pos (by show(art (netA p r) _).f=0;rw[ha])]
  show 0<(art (netA p r) _).c-_
  rw[ha,e];simp only;omega)
 unfold oth at this
 rw[if_pos (by show(art (netA p r) _).f=0;rw[ha])]at this
 have e3:(art (net p r).a (p.length+k)).t=2+2*i:=by show(art (netA p r) _).t=_;rw[ha]
 rwa [e3]at this
end Go.Fl
